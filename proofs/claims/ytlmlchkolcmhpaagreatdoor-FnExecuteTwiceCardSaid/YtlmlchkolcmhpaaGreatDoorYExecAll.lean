/-
  Contract: impl.Execute, for every script.
-/
import Derived.Test.YtlmlchkolcmhpaaGreatDoorJ4
import Derived.Test.YtlmlchkolcmhpaaGreatDoorYLine0
import Derived.Test.YtlmlchkolcmhpaaGreatDoorYLine2
import Derived.Test.YtlmlchkolcmhpaaGreatDoorYLine3
import Derived.Test.YtlmlchkolcmhpaaGreatDoorJ5
import Derived.Test.YtlmlchkolcmhpaaGreatDoorYLine6
import Derived.Test.YtlmlchkolcmhpaaGreatDoorYLine7
import Derived.Test.YtlmlchkolcmhpaaGreatDoorYLine8
namespace Go.Proofs.YtlmlchkolcmhpaaGreatDoor
open Go.RowKit
open Go.TextMath (tvB mvB text word)
open Go.ParseMath

theorem line_any (ws : List (List UInt8)) : LineC (kindM ws) := by
  unfold kindM
  split
  · exact line1
  split
  · exact line2
  split
  · exact line3
  split
  · exact line4
  split
  · exact line5
  split
  · exact line6
  split
  · exact line7
  split
  · exact line8
  · exact line0
theorem executeAll (s : ByteArray) (w : World) (hs : s.size ≤ 100000000) (hl : LibM w) :
    Calls Tryz.prog 11 #[.string s] w fun e w' => e = .returned (.string ⟨(execM s.data.toList).toArray⟩) ∧ Below w.heap.size w w' := executeI s w hs hl fun _ _ => line_any _
end Go.Proofs.YtlmlchkolcmhpaaGreatDoor
