/-
  A rule of this seat's walks: bytes of a text that is converted to bytes. No condition beside those that stand in the theorem.
-/
import Derived.Test.YtogpbbgcdeiplaaOps2
set_option linter.all false
namespace Go.Px
open Go.RowKit

section
variable {P : Program} {N : FN} {ops : Array Oper} {Q : Exit → Act → World → Prop} {fl : FL} {T : Tab} {w : World} {i : Nat} {rest : OT}

end
end Go.Px
