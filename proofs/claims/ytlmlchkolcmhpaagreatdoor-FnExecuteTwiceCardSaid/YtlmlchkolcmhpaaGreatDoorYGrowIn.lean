/-
  append of one element, in a round of a range over a function.
-/
import Derived.Test.YtlmlchkolcmhpaaGreatDoorJ1
import Derived.Test.YtlmlchkolcmhpaaGreatDoorJ5
namespace Go.Proofs.YtlmlchkolcmhpaaGreatDoor
open Go.RowKit

end Go.Proofs.YtlmlchkolcmhpaaGreatDoor
