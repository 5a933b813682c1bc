/-
  No cell of these rows narrows 'for every input' (looked for: loops, veiled, ifaces, maps, wideKeys, modest, calm, conditions, laid).
  DERIVED. THE GIVEN ROWS OF THIS SEAT. 7 by the template 'for every input the law returns true; each argument reads behind the call as it read before'; 0 by the template 'total and deterministic' (their statements: YtfpgfnmidkkgjaaTotals.lean).
  GIVEN WITH THE SEED: the statements are not yours to turn. If you find one false, say at which input.
  Laid BY PROGRAM, IN A SANDBOX (cutbox-rows.mjs): the forced cells as the released guide's own fill.sh prints them over the translation ffba24453c915518… (all of the seat's roots in one cut). By AI agents, Wed Nov 11 2026. No macro, syntax, notation, axiom, sorry.
-/
import Derived.Test.YtfpgfnmidkkgjaaChecked
import GoSem.Claim
import GoSem.ClaimJoined
import GoSem.ClaimMapViews
import Derived.JoinedTies
import Derived.KernelRfl
namespace Go.Proofs.Ytfpgfnmidkkgjaa
/- THE CELL 'sum', in the pinned program and in every row, IS THE sha256 OF THE DUMP (.gsa) THAT YtfpgfnmidkkgjaaProg.lean LOADS. Nothing in Lean hashes anything: it is a label: what it is worth is what the hold of that sum in a sandbox is worth. -/
noncomputable def Try.pinned : Pinned := { name := "ytfpgfnmidkkgjaa", sum := "ffba24453c9155188e5600677cec436de76675b34b9b0ec3c8fee938eb272b9e", checked := Try.checked }
namespace Rows
def none {H : Type} : Left H := { results := [], args := [] }

/-- 'stooklaw04.ShaPresses': WHATEVER THE INPUT: true; the input reads as it did. -/
def shaPressesSpec : ChangeSpec := { name := "shaPresses", fn := fun _ => fun
  | [d1, d2] => { results := [.lit (.bool true)], args := [d1, d2] }
  | _ => none }
def shaPressesRow : OpenClaim := { program := "ytfpgfnmidkkgjaa", sum := "ffba24453c9155188e5600677cec436de76675b34b9b0ec3c8fee938eb272b9e", func := "stook/stooklaw04.ShaPresses", spec := "shaPresses", unfollowed := true, recurses := true, apart := false }
def ShaPressesSaid : Prop := shaPressesRow.holds Try.pinned (OpenSpec.ofChange shaPressesSpec)

/-- ITS FALSE NEIGHBOUR: 'it returns false'. Refute it at one input. -/
def shaPressesWrong : ChangeSpec := { name := "shaPresses", fn := fun _ => fun
  | [d1, d2] => { results := [.lit (.bool false)], args := [d1, d2] }
  | _ => none }
def ShaPressesWrongFalsely : Prop := shaPressesRow.holds Try.pinned (OpenSpec.ofChange shaPressesWrong)

/-- 'stooklaw04.ShaSums': WHATEVER THE INPUT: true; the input reads as it did. -/
def shaSumsSpec : ChangeSpec := { name := "shaSums", fn := fun _ => fun
  | [d] => { results := [.lit (.bool true)], args := [d] }
  | _ => none }
def shaSumsRow : OpenClaim := { program := "ytfpgfnmidkkgjaa", sum := "ffba24453c9155188e5600677cec436de76675b34b9b0ec3c8fee938eb272b9e", func := "stook/stooklaw04.ShaSums", spec := "shaSums", unfollowed := true, recurses := true, apart := false }
def ShaSumsSaid : Prop := shaSumsRow.holds Try.pinned (OpenSpec.ofChange shaSumsSpec)

/-- ITS FALSE NEIGHBOUR: 'it returns false'. Refute it at one input. -/
def shaSumsWrong : ChangeSpec := { name := "shaSums", fn := fun _ => fun
  | [d] => { results := [.lit (.bool false)], args := [d] }
  | _ => none }
def ShaSumsWrongFalsely : Prop := shaSumsRow.holds Try.pinned (OpenSpec.ofChange shaSumsWrong)

/-- 'stooklaw04.ShaBehind': WHATEVER THE INPUT: true; the input reads as it did. -/
def shaBehindSpec : ChangeSpec := { name := "shaBehind", fn := fun _ => fun
  | [d] => { results := [.lit (.bool true)], args := [d] }
  | _ => none }
def shaBehindRow : OpenClaim := { program := "ytfpgfnmidkkgjaa", sum := "ffba24453c9155188e5600677cec436de76675b34b9b0ec3c8fee938eb272b9e", func := "stook/stooklaw04.ShaBehind", spec := "shaBehind", unfollowed := true, recurses := true, apart := false }
def ShaBehindSaid : Prop := shaBehindRow.holds Try.pinned (OpenSpec.ofChange shaBehindSpec)

/-- ITS FALSE NEIGHBOUR: 'it returns false'. Refute it at one input. -/
def shaBehindWrong : ChangeSpec := { name := "shaBehind", fn := fun _ => fun
  | [d] => { results := [.lit (.bool false)], args := [d] }
  | _ => none }
def ShaBehindWrongFalsely : Prop := shaBehindRow.holds Try.pinned (OpenSpec.ofChange shaBehindWrong)

/-- 'stooklaw04.ShaPieces': WHATEVER THE INPUT: true; the input reads as it did. -/
def shaPiecesSpec : ChangeSpec := { name := "shaPieces", fn := fun _ => fun
  | [d1, d2] => { results := [.lit (.bool true)], args := [d1, d2] }
  | _ => none }
def shaPiecesRow : OpenClaim := { program := "ytfpgfnmidkkgjaa", sum := "ffba24453c9155188e5600677cec436de76675b34b9b0ec3c8fee938eb272b9e", func := "stook/stooklaw04.ShaPieces", spec := "shaPieces", unfollowed := true, recurses := true, apart := false }
def ShaPiecesSaid : Prop := shaPiecesRow.holds Try.pinned (OpenSpec.ofChange shaPiecesSpec)

/-- ITS FALSE NEIGHBOUR: 'it returns false'. Refute it at one input. -/
def shaPiecesWrong : ChangeSpec := { name := "shaPieces", fn := fun _ => fun
  | [d1, d2] => { results := [.lit (.bool false)], args := [d1, d2] }
  | _ => none }
def ShaPiecesWrongFalsely : Prop := shaPiecesRow.holds Try.pinned (OpenSpec.ofChange shaPiecesWrong)

/-- 'stooklaw04.ShaNil': WHATEVER THE INPUT: true; the input reads as it did. -/
def shaNilSpec : ChangeSpec := { name := "shaNil", fn := fun _ => fun
  | [d] => { results := [.lit (.bool true)], args := [d] }
  | _ => none }
def shaNilRow : OpenClaim := { program := "ytfpgfnmidkkgjaa", sum := "ffba24453c9155188e5600677cec436de76675b34b9b0ec3c8fee938eb272b9e", func := "stook/stooklaw04.ShaNil", spec := "shaNil", unfollowed := true, recurses := true, apart := false }
def ShaNilSaid : Prop := shaNilRow.holds Try.pinned (OpenSpec.ofChange shaNilSpec)

/-- ITS FALSE NEIGHBOUR: 'it returns false'. Refute it at one input. -/
def shaNilWrong : ChangeSpec := { name := "shaNil", fn := fun _ => fun
  | [d] => { results := [.lit (.bool false)], args := [d] }
  | _ => none }
def ShaNilWrongFalsely : Prop := shaNilRow.holds Try.pinned (OpenSpec.ofChange shaNilWrong)

/-- 'stooklaw04.ShaFresh': WHATEVER THE INPUT: true; the input reads as it did. -/
def shaFreshSpec : ChangeSpec := { name := "shaFresh", fn := fun _ => fun
  | [d] => { results := [.lit (.bool true)], args := [d] }
  | _ => none }
def shaFreshRow : OpenClaim := { program := "ytfpgfnmidkkgjaa", sum := "ffba24453c9155188e5600677cec436de76675b34b9b0ec3c8fee938eb272b9e", func := "stook/stooklaw04.ShaFresh", spec := "shaFresh", unfollowed := true, recurses := true, apart := false }
def ShaFreshSaid : Prop := shaFreshRow.holds Try.pinned (OpenSpec.ofChange shaFreshSpec)

/-- ITS FALSE NEIGHBOUR: 'it returns false'. Refute it at one input. -/
def shaFreshWrong : ChangeSpec := { name := "shaFresh", fn := fun _ => fun
  | [d] => { results := [.lit (.bool false)], args := [d] }
  | _ => none }
def ShaFreshWrongFalsely : Prop := shaFreshRow.holds Try.pinned (OpenSpec.ofChange shaFreshWrong)

/-- 'stooklaw04.ShaTexts': WHATEVER THE INPUT: true; the input reads as it did. -/
def shaTextsSpec : ChangeSpec := { name := "shaTexts", fn := fun _ => fun
  | [d1, d2] => { results := [.lit (.bool true)], args := [d1, d2] }
  | _ => none }
def shaTextsRow : OpenClaim := { program := "ytfpgfnmidkkgjaa", sum := "ffba24453c9155188e5600677cec436de76675b34b9b0ec3c8fee938eb272b9e", func := "stook/stooklaw04.ShaTexts", spec := "shaTexts", unfollowed := true, recurses := true, apart := false }
def ShaTextsSaid : Prop := shaTextsRow.holds Try.pinned (OpenSpec.ofChange shaTextsSpec)

/-- ITS FALSE NEIGHBOUR: 'it returns false'. Refute it at one input. -/
def shaTextsWrong : ChangeSpec := { name := "shaTexts", fn := fun _ => fun
  | [d1, d2] => { results := [.lit (.bool false)], args := [d1, d2] }
  | _ => none }
def ShaTextsWrongFalsely : Prop := shaTextsRow.holds Try.pinned (OpenSpec.ofChange shaTextsWrong)

/- THE SECOND FORM. 'bulk': how many values and letters a reading holds, each counted each time it is reached (what is shared counts as often as it is met; a slice's spare places count too). A statement '..UptoSaid' is the law's where the arguments, and the package variables that the reading takes, are together of bulk at most 1048576: NARROWER than '..Said'. Prove '..Said' where nothing that the law and all that it calls make is longer than what came in: it says more and counts as full. Else prove '..UptoSaid'. A law counts once. -/
mutual
def uptoBulk {H : Type} : DataW H → Nat
  | .lit (.string bytes) => bytes.length + 1
  | .lit _ => 1
  | .nil => 1
  | .ptr d => uptoBulk d + 1
  | .slice elems spare => uptoBulkAll elems + uptoBulkAll spare + 1
  | .agg parts => uptoBulkAll parts + 1
  | .iface _ d => uptoBulk d + 1
  | .map entries => uptoBulkEntries entries + 1
  | .held _ => 1
def uptoBulkAll {H : Type} : List (DataW H) → Nat
  | [] => 0
  | d :: r => uptoBulk d + uptoBulkAll r
def uptoBulkEntries {H : Type} : List (Lit × DataW H) → Nat
  | [] => 0
  | x :: r => uptoBulkEntry x + uptoBulkEntries r
def uptoBulkEntry {H : Type} : Lit × DataW H → Nat
  | (.string bytes, d) => bytes.length + uptoBulk d + 1
  | (_, d) => uptoBulk d + 1
 end
def uptoSmall : (H : Type) → List (DataW H) → Bool := fun _ ds => decide (uptoBulkAll ds ≤ 1048576)
def OpenSpec.upto (s : _root_.Go.ChangeSpec) : _root_.Go.OpenSpec := { _root_.Go.OpenSpec.ofChange s with cond := some uptoSmall }

/-- 'stooklaw04.ShaPresses', WHERE WHAT IT READS IS OF BULK AT MOST 1048576: true; the input reads as it did. -/
def shaPressesUptoRow : OpenClaim := { program := "ytfpgfnmidkkgjaa", sum := "ffba24453c9155188e5600677cec436de76675b34b9b0ec3c8fee938eb272b9e", func := "stook/stooklaw04.ShaPresses", spec := "shaPresses", unfollowed := true, recurses := true, apart := false, narrowed := true }
def ShaPressesUptoSaid : Prop := shaPressesUptoRow.holds Try.pinned (OpenSpec.upto shaPressesSpec)

/-- 'stooklaw04.ShaSums', WHERE WHAT IT READS IS OF BULK AT MOST 1048576: true; the input reads as it did. -/
def shaSumsUptoRow : OpenClaim := { program := "ytfpgfnmidkkgjaa", sum := "ffba24453c9155188e5600677cec436de76675b34b9b0ec3c8fee938eb272b9e", func := "stook/stooklaw04.ShaSums", spec := "shaSums", unfollowed := true, recurses := true, apart := false, narrowed := true }
def ShaSumsUptoSaid : Prop := shaSumsUptoRow.holds Try.pinned (OpenSpec.upto shaSumsSpec)

/-- 'stooklaw04.ShaBehind', WHERE WHAT IT READS IS OF BULK AT MOST 1048576: true; the input reads as it did. -/
def shaBehindUptoRow : OpenClaim := { program := "ytfpgfnmidkkgjaa", sum := "ffba24453c9155188e5600677cec436de76675b34b9b0ec3c8fee938eb272b9e", func := "stook/stooklaw04.ShaBehind", spec := "shaBehind", unfollowed := true, recurses := true, apart := false, narrowed := true }
def ShaBehindUptoSaid : Prop := shaBehindUptoRow.holds Try.pinned (OpenSpec.upto shaBehindSpec)

/-- 'stooklaw04.ShaPieces', WHERE WHAT IT READS IS OF BULK AT MOST 1048576: true; the input reads as it did. -/
def shaPiecesUptoRow : OpenClaim := { program := "ytfpgfnmidkkgjaa", sum := "ffba24453c9155188e5600677cec436de76675b34b9b0ec3c8fee938eb272b9e", func := "stook/stooklaw04.ShaPieces", spec := "shaPieces", unfollowed := true, recurses := true, apart := false, narrowed := true }
def ShaPiecesUptoSaid : Prop := shaPiecesUptoRow.holds Try.pinned (OpenSpec.upto shaPiecesSpec)

/-- 'stooklaw04.ShaNil', WHERE WHAT IT READS IS OF BULK AT MOST 1048576: true; the input reads as it did. -/
def shaNilUptoRow : OpenClaim := { program := "ytfpgfnmidkkgjaa", sum := "ffba24453c9155188e5600677cec436de76675b34b9b0ec3c8fee938eb272b9e", func := "stook/stooklaw04.ShaNil", spec := "shaNil", unfollowed := true, recurses := true, apart := false, narrowed := true }
def ShaNilUptoSaid : Prop := shaNilUptoRow.holds Try.pinned (OpenSpec.upto shaNilSpec)

/-- 'stooklaw04.ShaFresh', WHERE WHAT IT READS IS OF BULK AT MOST 1048576: true; the input reads as it did. -/
def shaFreshUptoRow : OpenClaim := { program := "ytfpgfnmidkkgjaa", sum := "ffba24453c9155188e5600677cec436de76675b34b9b0ec3c8fee938eb272b9e", func := "stook/stooklaw04.ShaFresh", spec := "shaFresh", unfollowed := true, recurses := true, apart := false, narrowed := true }
def ShaFreshUptoSaid : Prop := shaFreshUptoRow.holds Try.pinned (OpenSpec.upto shaFreshSpec)

/-- 'stooklaw04.ShaTexts', WHERE WHAT IT READS IS OF BULK AT MOST 1048576: true; the input reads as it did. -/
def shaTextsUptoRow : OpenClaim := { program := "ytfpgfnmidkkgjaa", sum := "ffba24453c9155188e5600677cec436de76675b34b9b0ec3c8fee938eb272b9e", func := "stook/stooklaw04.ShaTexts", spec := "shaTexts", unfollowed := true, recurses := true, apart := false, narrowed := true }
def ShaTextsUptoSaid : Prop := shaTextsUptoRow.holds Try.pinned (OpenSpec.upto shaTextsSpec)

end Rows
end Go.Proofs.Ytfpgfnmidkkgjaa
