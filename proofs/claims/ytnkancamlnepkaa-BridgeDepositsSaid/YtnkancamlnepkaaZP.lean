/-
  This program, for the walk by computing. No condition.
-/
import Derived.Test.YtnkancamlnepkaaProg
import Derived.Test.YtnkancamlnepkaaZF
set_option linter.all false
namespace Go.Pw
open Go Go.Px Go.RowKit
noncomputable def Xp : Cx := ⟨Go.Proofs.Try.prog, [(35, 0), (37, 2), (52, 4), (67, 5), (54, 6), (4, 7)], [.i64]⟩
end Go.Pw
