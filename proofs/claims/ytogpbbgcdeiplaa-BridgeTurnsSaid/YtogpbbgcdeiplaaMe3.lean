/-
  Walks by computing. No condition.
-/
import Derived.Test.YtogpbbgcdeiplaaMe2
set_option linter.all false
set_option maxRecDepth 100000
set_option maxHeartbeats 1000000
namespace Go.Pw
open Go Go.Px Go.RowKit
attribute [local irreducible] shaF



end Go.Pw
