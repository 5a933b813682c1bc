/-
  No cell of these rows narrows 'for every input' (looked for: loops, veiled, ifaces, maps, wideKeys, modest, calm, conditions, laid).
  DERIVED. THE GIVEN ROWS OF THIS SEAT. 8 by the template 'for every input the law returns true; each argument reads behind the call as it read before'; 0 by the template 'total and deterministic' (their statements: YtobedpohoellkaaTotals.lean).
  GIVEN WITH THE SEED: the statements are not yours to turn. If you find one false, say at which input.
  Laid BY PROGRAM, IN A SANDBOX (cutbox-rows.mjs): the forced cells as the released guide's own fill.sh prints them over the translation eff6f8fdd4ff8576… (all of the seat's roots in one cut). By AI agents, Wed Nov 11 2026. No macro, syntax, notation, axiom, sorry.
-/
import Derived.Test.YtobedpohoellkaaChecked
import GoSem.Claim
import GoSem.ClaimJoined
import GoSem.ClaimMapViews
import Derived.JoinedTies
import Derived.KernelRfl
namespace Go.Proofs.Ytobedpohoellkaa
/- THE CELL 'sum', in the pinned program and in every row, IS THE sha256 OF THE DUMP (.gsa) THAT YtobedpohoellkaaProg.lean LOADS. Nothing in Lean hashes anything: it is a label: what it is worth is what the hold of that sum in a sandbox is worth. -/
noncomputable def Try.pinned : Pinned := { name := "ytobedpohoellkaa", sum := "eff6f8fdd4ff85768c028a3cbfa744a1ba7e9e083400d58af117e27f13709503", checked := Try.checked }
namespace Rows
def none {H : Type} : Left H := { results := [], args := [] }

/-- 'stooklaw13.RecordPuts': WHATEVER THE INPUT: true; the input reads as it did. -/
def recordPutsSpec : ChangeSpec := { name := "recordPuts", fn := fun _ => fun
  | [d] => { results := [.lit (.bool true)], args := [d] }
  | _ => none }
def recordPutsRow : OpenClaim := { program := "ytobedpohoellkaa", sum := "eff6f8fdd4ff85768c028a3cbfa744a1ba7e9e083400d58af117e27f13709503", func := "stook/stooklaw13.RecordPuts", spec := "recordPuts", unfollowed := true, recurses := true, plainKeys := false, apart := false }
def RecordPutsSaid : Prop := recordPutsRow.holds Try.pinned (OpenSpec.ofChange recordPutsSpec)

/-- ITS FALSE NEIGHBOUR: 'it returns false'. Refute it at one input. -/
def recordPutsWrong : ChangeSpec := { name := "recordPuts", fn := fun _ => fun
  | [d] => { results := [.lit (.bool false)], args := [d] }
  | _ => none }
def RecordPutsWrongFalsely : Prop := recordPutsRow.holds Try.pinned (OpenSpec.ofChange recordPutsWrong)

/-- 'stooklaw13.RecordGets': WHATEVER THE INPUT: true; the input reads as it did. -/
def recordGetsSpec : ChangeSpec := { name := "recordGets", fn := fun _ => fun
  | [d] => { results := [.lit (.bool true)], args := [d] }
  | _ => none }
def recordGetsRow : OpenClaim := { program := "ytobedpohoellkaa", sum := "eff6f8fdd4ff85768c028a3cbfa744a1ba7e9e083400d58af117e27f13709503", func := "stook/stooklaw13.RecordGets", spec := "recordGets", unfollowed := true, recurses := true, plainKeys := false, apart := false }
def RecordGetsSaid : Prop := recordGetsRow.holds Try.pinned (OpenSpec.ofChange recordGetsSpec)

/-- ITS FALSE NEIGHBOUR: 'it returns false'. Refute it at one input. -/
def recordGetsWrong : ChangeSpec := { name := "recordGets", fn := fun _ => fun
  | [d] => { results := [.lit (.bool false)], args := [d] }
  | _ => none }
def RecordGetsWrongFalsely : Prop := recordGetsRow.holds Try.pinned (OpenSpec.ofChange recordGetsWrong)

/-- 'stooklaw13.RecordOf': WHATEVER THE INPUT: true; the input reads as it did. -/
def recordOfSpec : ChangeSpec := { name := "recordOf", fn := fun _ => fun
  | [d1, d2, d3] => { results := [.lit (.bool true)], args := [d1, d2, d3] }
  | _ => none }
def recordOfRow : OpenClaim := { program := "ytobedpohoellkaa", sum := "eff6f8fdd4ff85768c028a3cbfa744a1ba7e9e083400d58af117e27f13709503", func := "stook/stooklaw13.RecordOf", spec := "recordOf", unfollowed := true, recurses := true, plainKeys := false, apart := false }
def RecordOfSaid : Prop := recordOfRow.holds Try.pinned (OpenSpec.ofChange recordOfSpec)

/-- ITS FALSE NEIGHBOUR: 'it returns false'. Refute it at one input. -/
def recordOfWrong : ChangeSpec := { name := "recordOf", fn := fun _ => fun
  | [d1, d2, d3] => { results := [.lit (.bool false)], args := [d1, d2, d3] }
  | _ => none }
def RecordOfWrongFalsely : Prop := recordOfRow.holds Try.pinned (OpenSpec.ofChange recordOfWrong)

/-- 'stooklaw13.RecordOne': WHATEVER THE INPUT: true; the input reads as it did. -/
def recordOneSpec : ChangeSpec := { name := "recordOne", fn := fun _ => fun
  | [d] => { results := [.lit (.bool true)], args := [d] }
  | _ => none }
def recordOneRow : OpenClaim := { program := "ytobedpohoellkaa", sum := "eff6f8fdd4ff85768c028a3cbfa744a1ba7e9e083400d58af117e27f13709503", func := "stook/stooklaw13.RecordOne", spec := "recordOne", unfollowed := true, recurses := true, plainKeys := false, apart := false }
def RecordOneSaid : Prop := recordOneRow.holds Try.pinned (OpenSpec.ofChange recordOneSpec)

/-- ITS FALSE NEIGHBOUR: 'it returns false'. Refute it at one input. -/
def recordOneWrong : ChangeSpec := { name := "recordOne", fn := fun _ => fun
  | [d] => { results := [.lit (.bool false)], args := [d] }
  | _ => none }
def RecordOneWrongFalsely : Prop := recordOneRow.holds Try.pinned (OpenSpec.ofChange recordOneWrong)

/-- 'stooklaw13.RecordFresh': WHATEVER THE INPUT: true; the input reads as it did. -/
def recordFreshSpec : ChangeSpec := { name := "recordFresh", fn := fun _ => fun
  | [d1, d2] => { results := [.lit (.bool true)], args := [d1, d2] }
  | _ => none }
def recordFreshRow : OpenClaim := { program := "ytobedpohoellkaa", sum := "eff6f8fdd4ff85768c028a3cbfa744a1ba7e9e083400d58af117e27f13709503", func := "stook/stooklaw13.RecordFresh", spec := "recordFresh", unfollowed := true, recurses := true, plainKeys := false, apart := false }
def RecordFreshSaid : Prop := recordFreshRow.holds Try.pinned (OpenSpec.ofChange recordFreshSpec)

/-- ITS FALSE NEIGHBOUR: 'it returns false'. Refute it at one input. -/
def recordFreshWrong : ChangeSpec := { name := "recordFresh", fn := fun _ => fun
  | [d1, d2] => { results := [.lit (.bool false)], args := [d1, d2] }
  | _ => none }
def RecordFreshWrongFalsely : Prop := recordFreshRow.holds Try.pinned (OpenSpec.ofChange recordFreshWrong)

/-- 'stooklaw13.RecordSame': WHATEVER THE INPUT: true; the input reads as it did. -/
def recordSameSpec : ChangeSpec := { name := "recordSame", fn := fun _ => fun
  | [d1, d2, d3, d4] => { results := [.lit (.bool true)], args := [d1, d2, d3, d4] }
  | _ => none }
def recordSameRow : OpenClaim := { program := "ytobedpohoellkaa", sum := "eff6f8fdd4ff85768c028a3cbfa744a1ba7e9e083400d58af117e27f13709503", func := "stook/stooklaw13.RecordSame", spec := "recordSame", unfollowed := true, recurses := true, plainKeys := false, apart := false }
def RecordSameSaid : Prop := recordSameRow.holds Try.pinned (OpenSpec.ofChange recordSameSpec)

/-- ITS FALSE NEIGHBOUR: 'it returns false'. Refute it at one input. -/
def recordSameWrong : ChangeSpec := { name := "recordSame", fn := fun _ => fun
  | [d1, d2, d3, d4] => { results := [.lit (.bool false)], args := [d1, d2, d3, d4] }
  | _ => none }
def RecordSameWrongFalsely : Prop := recordSameRow.holds Try.pinned (OpenSpec.ofChange recordSameWrong)

/-- 'stooklaw13.RecordDocs': WHATEVER THE INPUT: true; the input reads as it did. -/
def recordDocsSpec : ChangeSpec := { name := "recordDocs", fn := fun _ => fun
  | [d1, d2] => { results := [.lit (.bool true)], args := [d1, d2] }
  | _ => none }
def recordDocsRow : OpenClaim := { program := "ytobedpohoellkaa", sum := "eff6f8fdd4ff85768c028a3cbfa744a1ba7e9e083400d58af117e27f13709503", func := "stook/stooklaw13.RecordDocs", spec := "recordDocs", unfollowed := true, recurses := true, plainKeys := false, apart := false }
def RecordDocsSaid : Prop := recordDocsRow.holds Try.pinned (OpenSpec.ofChange recordDocsSpec)

/-- ITS FALSE NEIGHBOUR: 'it returns false'. Refute it at one input. -/
def recordDocsWrong : ChangeSpec := { name := "recordDocs", fn := fun _ => fun
  | [d1, d2] => { results := [.lit (.bool false)], args := [d1, d2] }
  | _ => none }
def RecordDocsWrongFalsely : Prop := recordDocsRow.holds Try.pinned (OpenSpec.ofChange recordDocsWrong)

/-- 'stooklaw13.RecordBack': WHATEVER THE INPUT: true; the input reads as it did. -/
def recordBackSpec : ChangeSpec := { name := "recordBack", fn := fun _ => fun
  | [d1, d2, d3] => { results := [.lit (.bool true)], args := [d1, d2, d3] }
  | _ => none }
def recordBackRow : OpenClaim := { program := "ytobedpohoellkaa", sum := "eff6f8fdd4ff85768c028a3cbfa744a1ba7e9e083400d58af117e27f13709503", func := "stook/stooklaw13.RecordBack", spec := "recordBack", unfollowed := true, recurses := true, plainKeys := false, apart := false }
def RecordBackSaid : Prop := recordBackRow.holds Try.pinned (OpenSpec.ofChange recordBackSpec)

/-- ITS FALSE NEIGHBOUR: 'it returns false'. Refute it at one input. -/
def recordBackWrong : ChangeSpec := { name := "recordBack", fn := fun _ => fun
  | [d1, d2, d3] => { results := [.lit (.bool false)], args := [d1, d2, d3] }
  | _ => none }
def RecordBackWrongFalsely : Prop := recordBackRow.holds Try.pinned (OpenSpec.ofChange recordBackWrong)

/- THE SECOND FORM. 'bulk': how many values and letters a reading holds, each counted each time it is reached (what is shared counts as often as it is met; a slice's spare places count too). A statement '..UptoSaid' is the law's where the arguments, and the package variables that the reading takes, are together of bulk at most 1048576: NARROWER than '..Said'. Prove '..Said' where nothing that the law and all that it calls make is longer than what came in: it says more and counts as full. Else prove '..UptoSaid'. A law counts once. -/
mutual
def uptoBulk {H : Type} : DataW H → Nat
  | .lit (.string bytes) => bytes.length + 1
  | .lit _ => 1
  | .nil => 1
  | .ptr d => uptoBulk d + 1
  | .slice elems spare => uptoBulkAll elems + uptoBulkAll spare + 1
  | .agg parts => uptoBulkAll parts + 1
  | .iface _ d => uptoBulk d + 1
  | .map entries => uptoBulkEntries entries + 1
  | .held _ => 1
def uptoBulkAll {H : Type} : List (DataW H) → Nat
  | [] => 0
  | d :: r => uptoBulk d + uptoBulkAll r
def uptoBulkEntries {H : Type} : List (Lit × DataW H) → Nat
  | [] => 0
  | x :: r => uptoBulkEntry x + uptoBulkEntries r
def uptoBulkEntry {H : Type} : Lit × DataW H → Nat
  | (.string bytes, d) => bytes.length + uptoBulk d + 1
  | (_, d) => uptoBulk d + 1
 end
def uptoSmall : (H : Type) → List (DataW H) → Bool := fun _ ds => decide (uptoBulkAll ds ≤ 1048576)
def OpenSpec.upto (s : _root_.Go.ChangeSpec) : _root_.Go.OpenSpec := { _root_.Go.OpenSpec.ofChange s with cond := some uptoSmall }

/-- 'stooklaw13.RecordPuts', WHERE WHAT IT READS IS OF BULK AT MOST 1048576: true; the input reads as it did. -/
def recordPutsUptoRow : OpenClaim := { program := "ytobedpohoellkaa", sum := "eff6f8fdd4ff85768c028a3cbfa744a1ba7e9e083400d58af117e27f13709503", func := "stook/stooklaw13.RecordPuts", spec := "recordPuts", unfollowed := true, recurses := true, plainKeys := false, apart := false, narrowed := true }
def RecordPutsUptoSaid : Prop := recordPutsUptoRow.holds Try.pinned (OpenSpec.upto recordPutsSpec)

/-- 'stooklaw13.RecordGets', WHERE WHAT IT READS IS OF BULK AT MOST 1048576: true; the input reads as it did. -/
def recordGetsUptoRow : OpenClaim := { program := "ytobedpohoellkaa", sum := "eff6f8fdd4ff85768c028a3cbfa744a1ba7e9e083400d58af117e27f13709503", func := "stook/stooklaw13.RecordGets", spec := "recordGets", unfollowed := true, recurses := true, plainKeys := false, apart := false, narrowed := true }
def RecordGetsUptoSaid : Prop := recordGetsUptoRow.holds Try.pinned (OpenSpec.upto recordGetsSpec)

/-- 'stooklaw13.RecordOf', WHERE WHAT IT READS IS OF BULK AT MOST 1048576: true; the input reads as it did. -/
def recordOfUptoRow : OpenClaim := { program := "ytobedpohoellkaa", sum := "eff6f8fdd4ff85768c028a3cbfa744a1ba7e9e083400d58af117e27f13709503", func := "stook/stooklaw13.RecordOf", spec := "recordOf", unfollowed := true, recurses := true, plainKeys := false, apart := false, narrowed := true }
def RecordOfUptoSaid : Prop := recordOfUptoRow.holds Try.pinned (OpenSpec.upto recordOfSpec)

/-- 'stooklaw13.RecordOne', WHERE WHAT IT READS IS OF BULK AT MOST 1048576: true; the input reads as it did. -/
def recordOneUptoRow : OpenClaim := { program := "ytobedpohoellkaa", sum := "eff6f8fdd4ff85768c028a3cbfa744a1ba7e9e083400d58af117e27f13709503", func := "stook/stooklaw13.RecordOne", spec := "recordOne", unfollowed := true, recurses := true, plainKeys := false, apart := false, narrowed := true }
def RecordOneUptoSaid : Prop := recordOneUptoRow.holds Try.pinned (OpenSpec.upto recordOneSpec)

/-- 'stooklaw13.RecordFresh', WHERE WHAT IT READS IS OF BULK AT MOST 1048576: true; the input reads as it did. -/
def recordFreshUptoRow : OpenClaim := { program := "ytobedpohoellkaa", sum := "eff6f8fdd4ff85768c028a3cbfa744a1ba7e9e083400d58af117e27f13709503", func := "stook/stooklaw13.RecordFresh", spec := "recordFresh", unfollowed := true, recurses := true, plainKeys := false, apart := false, narrowed := true }
def RecordFreshUptoSaid : Prop := recordFreshUptoRow.holds Try.pinned (OpenSpec.upto recordFreshSpec)

/-- 'stooklaw13.RecordSame', WHERE WHAT IT READS IS OF BULK AT MOST 1048576: true; the input reads as it did. -/
def recordSameUptoRow : OpenClaim := { program := "ytobedpohoellkaa", sum := "eff6f8fdd4ff85768c028a3cbfa744a1ba7e9e083400d58af117e27f13709503", func := "stook/stooklaw13.RecordSame", spec := "recordSame", unfollowed := true, recurses := true, plainKeys := false, apart := false, narrowed := true }
def RecordSameUptoSaid : Prop := recordSameUptoRow.holds Try.pinned (OpenSpec.upto recordSameSpec)

/-- 'stooklaw13.RecordDocs', WHERE WHAT IT READS IS OF BULK AT MOST 1048576: true; the input reads as it did. -/
def recordDocsUptoRow : OpenClaim := { program := "ytobedpohoellkaa", sum := "eff6f8fdd4ff85768c028a3cbfa744a1ba7e9e083400d58af117e27f13709503", func := "stook/stooklaw13.RecordDocs", spec := "recordDocs", unfollowed := true, recurses := true, plainKeys := false, apart := false, narrowed := true }
def RecordDocsUptoSaid : Prop := recordDocsUptoRow.holds Try.pinned (OpenSpec.upto recordDocsSpec)

/-- 'stooklaw13.RecordBack', WHERE WHAT IT READS IS OF BULK AT MOST 1048576: true; the input reads as it did. -/
def recordBackUptoRow : OpenClaim := { program := "ytobedpohoellkaa", sum := "eff6f8fdd4ff85768c028a3cbfa744a1ba7e9e083400d58af117e27f13709503", func := "stook/stooklaw13.RecordBack", spec := "recordBack", unfollowed := true, recurses := true, plainKeys := false, apart := false, narrowed := true }
def RecordBackUptoSaid : Prop := recordBackUptoRow.holds Try.pinned (OpenSpec.upto recordBackSpec)

end Rows
end Go.Proofs.Ytobedpohoellkaa
