/-
  This program, for the walk by computing. No condition.
-/
import Derived.Test.YthglpoebfepaiaaProg
import Derived.Test.YthglpoebfepaiaaZF
set_option linter.all false
namespace Go.Pw
open Go Go.Px Go.RowKit
noncomputable def Xp : Cx := ⟨Go.Proofs.Try.prog, [(32, 0), (34, 1), (88, 2), (29, 4), (65, 5)], [.i64]⟩
end Go.Pw
