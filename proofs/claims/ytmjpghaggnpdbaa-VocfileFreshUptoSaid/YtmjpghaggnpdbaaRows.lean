/-
  No cell of these rows narrows 'for every input' (looked for: loops, veiled, ifaces, maps, wideKeys, modest, calm, conditions, laid).
  DERIVED. THE GIVEN ROWS OF THIS SEAT. 5 by the template 'for every input the law returns true; each argument reads behind the call as it read before'; 0 by the template 'total and deterministic' (their statements: YtmjpghaggnpdbaaTotals.lean).
  GIVEN WITH THE SEED: the statements are not yours to turn. If you find one false, say at which input.
  Laid BY PROGRAM, IN A SANDBOX (cutbox-rows.mjs): the forced cells as the released guide's own fill.sh prints them over the translation 0168472b10fef73c… (all of the seat's roots in one cut). By AI agents, Wed Nov 11 2026. No macro, syntax, notation, axiom, sorry.
-/
import Derived.Test.YtmjpghaggnpdbaaChecked
import GoSem.Claim
import GoSem.ClaimJoined
import GoSem.ClaimMapViews
import Derived.JoinedTies
import Derived.KernelRfl
namespace Go.Proofs.Ytmjpghaggnpdbaa
/- THE CELL 'sum', in the pinned program and in every row, IS THE sha256 OF THE DUMP (.gsa) THAT YtmjpghaggnpdbaaProg.lean LOADS. Nothing in Lean hashes anything: it is a label: what it is worth is what the hold of that sum in a sandbox is worth. -/
noncomputable def Try.pinned : Pinned := { name := "ytmjpghaggnpdbaa", sum := "0168472b10fef73c342e99908230fa9fa6a91bfa6bf0356dbd858473f3959bea", checked := Try.checked }
namespace Rows
def none {H : Type} : Left H := { results := [], args := [] }

/-- 'stooklaw09.VocfileGets': WHATEVER THE INPUT: true; the input reads as it did. -/
def vocfileGetsSpec : ChangeSpec := { name := "vocfileGets", fn := fun _ => fun
  | [d] => { results := [.lit (.bool true)], args := [d] }
  | _ => none }
def vocfileGetsRow : OpenClaim := { program := "ytmjpghaggnpdbaa", sum := "0168472b10fef73c342e99908230fa9fa6a91bfa6bf0356dbd858473f3959bea", func := "stook/stooklaw09.VocfileGets", spec := "vocfileGets", unfollowed := true, recurses := true, plainKeys := false, apart := false }
def VocfileGetsSaid : Prop := vocfileGetsRow.holds Try.pinned (OpenSpec.ofChange vocfileGetsSpec)

/-- ITS FALSE NEIGHBOUR: 'it returns false'. Refute it at one input. -/
def vocfileGetsWrong : ChangeSpec := { name := "vocfileGets", fn := fun _ => fun
  | [d] => { results := [.lit (.bool false)], args := [d] }
  | _ => none }
def VocfileGetsWrongFalsely : Prop := vocfileGetsRow.holds Try.pinned (OpenSpec.ofChange vocfileGetsWrong)

/-- 'stooklaw09.VocfileBack': WHATEVER THE INPUT: true; the input reads as it did. -/
def vocfileBackSpec : ChangeSpec := { name := "vocfileBack", fn := fun _ => fun
  | [d1, d2] => { results := [.lit (.bool true)], args := [d1, d2] }
  | _ => none }
def vocfileBackRow : OpenClaim := { program := "ytmjpghaggnpdbaa", sum := "0168472b10fef73c342e99908230fa9fa6a91bfa6bf0356dbd858473f3959bea", func := "stook/stooklaw09.VocfileBack", spec := "vocfileBack", unfollowed := true, recurses := true, plainKeys := false, apart := false }
def VocfileBackSaid : Prop := vocfileBackRow.holds Try.pinned (OpenSpec.ofChange vocfileBackSpec)

/-- ITS FALSE NEIGHBOUR: 'it returns false'. Refute it at one input. -/
def vocfileBackWrong : ChangeSpec := { name := "vocfileBack", fn := fun _ => fun
  | [d1, d2] => { results := [.lit (.bool false)], args := [d1, d2] }
  | _ => none }
def VocfileBackWrongFalsely : Prop := vocfileBackRow.holds Try.pinned (OpenSpec.ofChange vocfileBackWrong)

/-- 'stooklaw09.VocfileSpoilt': WHATEVER THE INPUT: true; the input reads as it did. -/
def vocfileSpoiltSpec : ChangeSpec := { name := "vocfileSpoilt", fn := fun _ => fun
  | [d1, d2, d3, d4] => { results := [.lit (.bool true)], args := [d1, d2, d3, d4] }
  | _ => none }
def vocfileSpoiltRow : OpenClaim := { program := "ytmjpghaggnpdbaa", sum := "0168472b10fef73c342e99908230fa9fa6a91bfa6bf0356dbd858473f3959bea", func := "stook/stooklaw09.VocfileSpoilt", spec := "vocfileSpoilt", unfollowed := true, recurses := true, plainKeys := false, apart := false }
def VocfileSpoiltSaid : Prop := vocfileSpoiltRow.holds Try.pinned (OpenSpec.ofChange vocfileSpoiltSpec)

/-- ITS FALSE NEIGHBOUR: 'it returns false'. Refute it at one input. -/
def vocfileSpoiltWrong : ChangeSpec := { name := "vocfileSpoilt", fn := fun _ => fun
  | [d1, d2, d3, d4] => { results := [.lit (.bool false)], args := [d1, d2, d3, d4] }
  | _ => none }
def VocfileSpoiltWrongFalsely : Prop := vocfileSpoiltRow.holds Try.pinned (OpenSpec.ofChange vocfileSpoiltWrong)

/-- 'stooklaw09.VocfileFresh': WHATEVER THE INPUT: true; the input reads as it did. -/
def vocfileFreshSpec : ChangeSpec := { name := "vocfileFresh", fn := fun _ => fun
  | [d1, d2] => { results := [.lit (.bool true)], args := [d1, d2] }
  | _ => none }
def vocfileFreshRow : OpenClaim := { program := "ytmjpghaggnpdbaa", sum := "0168472b10fef73c342e99908230fa9fa6a91bfa6bf0356dbd858473f3959bea", func := "stook/stooklaw09.VocfileFresh", spec := "vocfileFresh", unfollowed := true, recurses := true, plainKeys := false, apart := false }
def VocfileFreshSaid : Prop := vocfileFreshRow.holds Try.pinned (OpenSpec.ofChange vocfileFreshSpec)

/-- ITS FALSE NEIGHBOUR: 'it returns false'. Refute it at one input. -/
def vocfileFreshWrong : ChangeSpec := { name := "vocfileFresh", fn := fun _ => fun
  | [d1, d2] => { results := [.lit (.bool false)], args := [d1, d2] }
  | _ => none }
def VocfileFreshWrongFalsely : Prop := vocfileFreshRow.holds Try.pinned (OpenSpec.ofChange vocfileFreshWrong)

/-- 'stooklaw09.VocfilePuts': WHATEVER THE INPUT: true; the input reads as it did. -/
def vocfilePutsSpec : ChangeSpec := { name := "vocfilePuts", fn := fun _ => fun
  | [d] => { results := [.lit (.bool true)], args := [d] }
  | _ => none }
def vocfilePutsRow : OpenClaim := { program := "ytmjpghaggnpdbaa", sum := "0168472b10fef73c342e99908230fa9fa6a91bfa6bf0356dbd858473f3959bea", func := "stook/stooklaw09.VocfilePuts", spec := "vocfilePuts", unfollowed := true, recurses := true, plainKeys := false, apart := false }
def VocfilePutsSaid : Prop := vocfilePutsRow.holds Try.pinned (OpenSpec.ofChange vocfilePutsSpec)

/-- ITS FALSE NEIGHBOUR: 'it returns false'. Refute it at one input. -/
def vocfilePutsWrong : ChangeSpec := { name := "vocfilePuts", fn := fun _ => fun
  | [d] => { results := [.lit (.bool false)], args := [d] }
  | _ => none }
def VocfilePutsWrongFalsely : Prop := vocfilePutsRow.holds Try.pinned (OpenSpec.ofChange vocfilePutsWrong)

/- THE SECOND FORM. 'bulk': how many values and letters a reading holds, each counted each time it is reached (what is shared counts as often as it is met; a slice's spare places count too). A statement '..UptoSaid' is the law's where the arguments, and the package variables that the reading takes, are together of bulk at most 1048576: NARROWER than '..Said'. Prove '..Said' where nothing that the law and all that it calls make is longer than what came in: it says more and counts as full. Else prove '..UptoSaid'. A law counts once. -/
mutual
def uptoBulk {H : Type} : DataW H → Nat
  | .lit (.string bytes) => bytes.length + 1
  | .lit _ => 1
  | .nil => 1
  | .ptr d => uptoBulk d + 1
  | .slice elems spare => uptoBulkAll elems + uptoBulkAll spare + 1
  | .agg parts => uptoBulkAll parts + 1
  | .iface _ d => uptoBulk d + 1
  | .map entries => uptoBulkEntries entries + 1
  | .held _ => 1
def uptoBulkAll {H : Type} : List (DataW H) → Nat
  | [] => 0
  | d :: r => uptoBulk d + uptoBulkAll r
def uptoBulkEntries {H : Type} : List (Lit × DataW H) → Nat
  | [] => 0
  | x :: r => uptoBulkEntry x + uptoBulkEntries r
def uptoBulkEntry {H : Type} : Lit × DataW H → Nat
  | (.string bytes, d) => bytes.length + uptoBulk d + 1
  | (_, d) => uptoBulk d + 1
 end
def uptoSmall : (H : Type) → List (DataW H) → Bool := fun _ ds => decide (uptoBulkAll ds ≤ 1048576)
def OpenSpec.upto (s : _root_.Go.ChangeSpec) : _root_.Go.OpenSpec := { _root_.Go.OpenSpec.ofChange s with cond := some uptoSmall }

/-- 'stooklaw09.VocfileGets', WHERE WHAT IT READS IS OF BULK AT MOST 1048576: true; the input reads as it did. -/
def vocfileGetsUptoRow : OpenClaim := { program := "ytmjpghaggnpdbaa", sum := "0168472b10fef73c342e99908230fa9fa6a91bfa6bf0356dbd858473f3959bea", func := "stook/stooklaw09.VocfileGets", spec := "vocfileGets", unfollowed := true, recurses := true, plainKeys := false, apart := false, narrowed := true }
def VocfileGetsUptoSaid : Prop := vocfileGetsUptoRow.holds Try.pinned (OpenSpec.upto vocfileGetsSpec)

/-- 'stooklaw09.VocfileBack', WHERE WHAT IT READS IS OF BULK AT MOST 1048576: true; the input reads as it did. -/
def vocfileBackUptoRow : OpenClaim := { program := "ytmjpghaggnpdbaa", sum := "0168472b10fef73c342e99908230fa9fa6a91bfa6bf0356dbd858473f3959bea", func := "stook/stooklaw09.VocfileBack", spec := "vocfileBack", unfollowed := true, recurses := true, plainKeys := false, apart := false, narrowed := true }
def VocfileBackUptoSaid : Prop := vocfileBackUptoRow.holds Try.pinned (OpenSpec.upto vocfileBackSpec)

/-- 'stooklaw09.VocfileSpoilt', WHERE WHAT IT READS IS OF BULK AT MOST 1048576: true; the input reads as it did. -/
def vocfileSpoiltUptoRow : OpenClaim := { program := "ytmjpghaggnpdbaa", sum := "0168472b10fef73c342e99908230fa9fa6a91bfa6bf0356dbd858473f3959bea", func := "stook/stooklaw09.VocfileSpoilt", spec := "vocfileSpoilt", unfollowed := true, recurses := true, plainKeys := false, apart := false, narrowed := true }
def VocfileSpoiltUptoSaid : Prop := vocfileSpoiltUptoRow.holds Try.pinned (OpenSpec.upto vocfileSpoiltSpec)

/-- 'stooklaw09.VocfileFresh', WHERE WHAT IT READS IS OF BULK AT MOST 1048576: true; the input reads as it did. -/
def vocfileFreshUptoRow : OpenClaim := { program := "ytmjpghaggnpdbaa", sum := "0168472b10fef73c342e99908230fa9fa6a91bfa6bf0356dbd858473f3959bea", func := "stook/stooklaw09.VocfileFresh", spec := "vocfileFresh", unfollowed := true, recurses := true, plainKeys := false, apart := false, narrowed := true }
def VocfileFreshUptoSaid : Prop := vocfileFreshUptoRow.holds Try.pinned (OpenSpec.upto vocfileFreshSpec)

/-- 'stooklaw09.VocfilePuts', WHERE WHAT IT READS IS OF BULK AT MOST 1048576: true; the input reads as it did. -/
def vocfilePutsUptoRow : OpenClaim := { program := "ytmjpghaggnpdbaa", sum := "0168472b10fef73c342e99908230fa9fa6a91bfa6bf0356dbd858473f3959bea", func := "stook/stooklaw09.VocfilePuts", spec := "vocfilePuts", unfollowed := true, recurses := true, plainKeys := false, apart := false, narrowed := true }
def VocfilePutsUptoSaid : Prop := vocfilePutsUptoRow.holds Try.pinned (OpenSpec.upto vocfilePutsSpec)

end Rows
end Go.Proofs.Ytmjpghaggnpdbaa
