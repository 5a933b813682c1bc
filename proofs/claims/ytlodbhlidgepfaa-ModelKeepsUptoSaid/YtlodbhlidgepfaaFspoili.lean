/- The reference's SpoilInts. -/
import Derived.Test.YtlodbhlidgepfaaVTa
import Derived.Test.YtlodbhlidgepfaaLib
set_option linter.unusedVariables false
set_option linter.unusedSimpArgs false
namespace Go.Proofs.Ytlodbhlidgepfaa
open Go.RowKit
namespace Voc
def IsI (u : Value) : Prop := ∃ x : Int, u = .int .i64 x
end Voc
end Go.Proofs.Ytlodbhlidgepfaa
