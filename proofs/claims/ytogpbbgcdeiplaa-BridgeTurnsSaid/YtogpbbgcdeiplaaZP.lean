/-
  This program, for the walk by computing. No condition.
-/
import Derived.Test.YtogpbbgcdeiplaaProg
import Derived.Test.YtogpbbgcdeiplaaZF
set_option linter.all false
namespace Go.Pw
open Go Go.Px Go.RowKit
noncomputable def Xp : Cx := ⟨Go.Proofs.Try.prog, [(40, 0), (55, 1), (42, 2), (83, 4), (87, 5), (153, 6), (4, 7)], [.i64]⟩
end Go.Pw
