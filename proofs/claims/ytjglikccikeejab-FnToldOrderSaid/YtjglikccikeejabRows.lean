/-
  No cell of these rows narrows 'for every input' (looked for: loops, veiled, ifaces, maps, wideKeys, modest, calm, conditions, laid).
  DERIVED. THE GIVEN ROWS OF THIS SEAT. 12 by the template 'for every input the law returns true; each argument reads behind the call as it read before'; 0 by the template 'total and deterministic' (their statements: YtjglikccikeejabTotals.lean).
  GIVEN WITH THE SEED: the statements are not yours to turn. If you find one false, say at which input.
  Laid BY PROGRAM, IN A SANDBOX (cutbox-rows.mjs): the forced cells as the released guide's own fill.sh prints them over the translation d4f834cf814d11c5… (all of the seat's roots in one cut). By AI agents, Wed Nov 11 2026. No macro, syntax, notation, axiom, sorry.
-/
import Derived.Test.YtjglikccikeejabChecked
import GoSem.Claim
import GoSem.ClaimJoined
import GoSem.ClaimMapViews
import Derived.JoinedTies
import Derived.KernelRfl
namespace Go.Proofs.Ytjglikccikeejab
/- THE CELL 'sum', in the pinned program and in every row, IS THE sha256 OF THE DUMP (.gsa) THAT YtjglikccikeejabProg.lean LOADS. Nothing in Lean hashes anything: it is a label: what it is worth is what the hold of that sum in a sandbox is worth. -/
noncomputable def Try.pinned : Pinned := { name := "ytjglikccikeejab", sum := "d4f834cf814d11c59d06667649ec90ff327611f1ffdaff8722f9cf95305fa903", checked := Try.checked }
namespace Rows
def none {H : Type} : Left H := { results := [], args := [] }

/-- 'laws.FnTellsOrder': WHATEVER THE INPUT: true; the input reads as it did. -/
def fnTellsOrderSpec : ChangeSpec := { name := "fnTellsOrder", fn := fun _ => fun
  | [d1, d2] => { results := [.lit (.bool true)], args := [d1, d2] }
  | _ => none }
def fnTellsOrderRow : OpenClaim := { program := "ytjglikccikeejab", sum := "d4f834cf814d11c59d06667649ec90ff327611f1ffdaff8722f9cf95305fa903", func := "loop.example/disclosurecontrol/laws.FnTellsOrder", spec := "fnTellsOrder", unfollowed := true, recurses := true, apart := false }
def FnTellsOrderSaid : Prop := fnTellsOrderRow.holds Try.pinned (OpenSpec.ofChange fnTellsOrderSpec)

/-- ITS FALSE NEIGHBOUR: 'it returns false'. Refute it at one input. -/
def fnTellsOrderWrong : ChangeSpec := { name := "fnTellsOrder", fn := fun _ => fun
  | [d1, d2] => { results := [.lit (.bool false)], args := [d1, d2] }
  | _ => none }
def FnTellsOrderWrongFalsely : Prop := fnTellsOrderRow.holds Try.pinned (OpenSpec.ofChange fnTellsOrderWrong)

/-- 'laws.FnTells': WHATEVER THE INPUT: true; the input reads as it did. -/
def fnTellsSpec : ChangeSpec := { name := "fnTells", fn := fun _ => fun
  | [d1, d2] => { results := [.lit (.bool true)], args := [d1, d2] }
  | _ => none }
def fnTellsRow : OpenClaim := { program := "ytjglikccikeejab", sum := "d4f834cf814d11c59d06667649ec90ff327611f1ffdaff8722f9cf95305fa903", func := "loop.example/disclosurecontrol/laws.FnTells", spec := "fnTells", unfollowed := true, recurses := true, apart := false }
def FnTellsSaid : Prop := fnTellsRow.holds Try.pinned (OpenSpec.ofChange fnTellsSpec)

/-- ITS FALSE NEIGHBOUR: 'it returns false'. Refute it at one input. -/
def fnTellsWrong : ChangeSpec := { name := "fnTells", fn := fun _ => fun
  | [d1, d2] => { results := [.lit (.bool false)], args := [d1, d2] }
  | _ => none }
def FnTellsWrongFalsely : Prop := fnTellsRow.holds Try.pinned (OpenSpec.ofChange fnTellsWrong)

/-- 'laws.FnToldMore': WHATEVER THE INPUT: true; the input reads as it did. -/
def fnToldMoreSpec : ChangeSpec := { name := "fnToldMore", fn := fun _ => fun
  | [d1, d2] => { results := [.lit (.bool true)], args := [d1, d2] }
  | _ => none }
def fnToldMoreRow : OpenClaim := { program := "ytjglikccikeejab", sum := "d4f834cf814d11c59d06667649ec90ff327611f1ffdaff8722f9cf95305fa903", func := "loop.example/disclosurecontrol/laws.FnToldMore", spec := "fnToldMore", unfollowed := true, recurses := true, apart := false }
def FnToldMoreSaid : Prop := fnToldMoreRow.holds Try.pinned (OpenSpec.ofChange fnToldMoreSpec)

/-- ITS FALSE NEIGHBOUR: 'it returns false'. Refute it at one input. -/
def fnToldMoreWrong : ChangeSpec := { name := "fnToldMore", fn := fun _ => fun
  | [d1, d2] => { results := [.lit (.bool false)], args := [d1, d2] }
  | _ => none }
def FnToldMoreWrongFalsely : Prop := fnToldMoreRow.holds Try.pinned (OpenSpec.ofChange fnToldMoreWrong)

/-- 'laws.FnToldOrder': WHATEVER THE INPUT: true; the input reads as it did. -/
def fnToldOrderSpec : ChangeSpec := { name := "fnToldOrder", fn := fun _ => fun
  | [d1, d2] => { results := [.lit (.bool true)], args := [d1, d2] }
  | _ => none }
def fnToldOrderRow : OpenClaim := { program := "ytjglikccikeejab", sum := "d4f834cf814d11c59d06667649ec90ff327611f1ffdaff8722f9cf95305fa903", func := "loop.example/disclosurecontrol/laws.FnToldOrder", spec := "fnToldOrder", unfollowed := true, recurses := true, apart := false }
def FnToldOrderSaid : Prop := fnToldOrderRow.holds Try.pinned (OpenSpec.ofChange fnToldOrderSpec)

/-- ITS FALSE NEIGHBOUR: 'it returns false'. Refute it at one input. -/
def fnToldOrderWrong : ChangeSpec := { name := "fnToldOrder", fn := fun _ => fun
  | [d1, d2] => { results := [.lit (.bool false)], args := [d1, d2] }
  | _ => none }
def FnToldOrderWrongFalsely : Prop := fnToldOrderRow.holds Try.pinned (OpenSpec.ofChange fnToldOrderWrong)

/-- 'laws.FnExactAskNext': WHATEVER THE INPUT: true; the input reads as it did. -/
def fnExactAskNextSpec : ChangeSpec := { name := "fnExactAskNext", fn := fun _ => fun
  | [d1, d2] => { results := [.lit (.bool true)], args := [d1, d2] }
  | _ => none }
def fnExactAskNextRow : OpenClaim := { program := "ytjglikccikeejab", sum := "d4f834cf814d11c59d06667649ec90ff327611f1ffdaff8722f9cf95305fa903", func := "loop.example/disclosurecontrol/laws.FnExactAskNext", spec := "fnExactAskNext", unfollowed := true, recurses := true, apart := false }
def FnExactAskNextSaid : Prop := fnExactAskNextRow.holds Try.pinned (OpenSpec.ofChange fnExactAskNextSpec)

/-- ITS FALSE NEIGHBOUR: 'it returns false'. Refute it at one input. -/
def fnExactAskNextWrong : ChangeSpec := { name := "fnExactAskNext", fn := fun _ => fun
  | [d1, d2] => { results := [.lit (.bool false)], args := [d1, d2] }
  | _ => none }
def FnExactAskNextWrongFalsely : Prop := fnExactAskNextRow.holds Try.pinned (OpenSpec.ofChange fnExactAskNextWrong)

/-- 'laws.FnTellsPair': WHATEVER THE INPUT: true; the input reads as it did. -/
def fnTellsPairSpec : ChangeSpec := { name := "fnTellsPair", fn := fun _ => fun
  | [d1, d2] => { results := [.lit (.bool true)], args := [d1, d2] }
  | _ => none }
def fnTellsPairRow : OpenClaim := { program := "ytjglikccikeejab", sum := "d4f834cf814d11c59d06667649ec90ff327611f1ffdaff8722f9cf95305fa903", func := "loop.example/disclosurecontrol/laws.FnTellsPair", spec := "fnTellsPair", unfollowed := true, recurses := true, apart := false }
def FnTellsPairSaid : Prop := fnTellsPairRow.holds Try.pinned (OpenSpec.ofChange fnTellsPairSpec)

/-- ITS FALSE NEIGHBOUR: 'it returns false'. Refute it at one input. -/
def fnTellsPairWrong : ChangeSpec := { name := "fnTellsPair", fn := fun _ => fun
  | [d1, d2] => { results := [.lit (.bool false)], args := [d1, d2] }
  | _ => none }
def FnTellsPairWrongFalsely : Prop := fnTellsPairRow.holds Try.pinned (OpenSpec.ofChange fnTellsPairWrong)

/-- 'laws.FnSafeTwice': WHATEVER THE INPUT: true; the input reads as it did. -/
def fnSafeTwiceSpec : ChangeSpec := { name := "fnSafeTwice", fn := fun _ => fun
  | [d1, d2] => { results := [.lit (.bool true)], args := [d1, d2] }
  | _ => none }
def fnSafeTwiceRow : OpenClaim := { program := "ytjglikccikeejab", sum := "d4f834cf814d11c59d06667649ec90ff327611f1ffdaff8722f9cf95305fa903", func := "loop.example/disclosurecontrol/laws.FnSafeTwice", spec := "fnSafeTwice", unfollowed := true, recurses := true, apart := false }
def FnSafeTwiceSaid : Prop := fnSafeTwiceRow.holds Try.pinned (OpenSpec.ofChange fnSafeTwiceSpec)

/-- ITS FALSE NEIGHBOUR: 'it returns false'. Refute it at one input. -/
def fnSafeTwiceWrong : ChangeSpec := { name := "fnSafeTwice", fn := fun _ => fun
  | [d1, d2] => { results := [.lit (.bool false)], args := [d1, d2] }
  | _ => none }
def FnSafeTwiceWrongFalsely : Prop := fnSafeTwiceRow.holds Try.pinned (OpenSpec.ofChange fnSafeTwiceWrong)

/-- 'laws.FnTold': WHATEVER THE INPUT: true; the input reads as it did. -/
def fnToldSpec : ChangeSpec := { name := "fnTold", fn := fun _ => fun
  | [d] => { results := [.lit (.bool true)], args := [d] }
  | _ => none }
def fnToldRow : OpenClaim := { program := "ytjglikccikeejab", sum := "d4f834cf814d11c59d06667649ec90ff327611f1ffdaff8722f9cf95305fa903", func := "loop.example/disclosurecontrol/laws.FnTold", spec := "fnTold", unfollowed := true, recurses := true, apart := false }
def FnToldSaid : Prop := fnToldRow.holds Try.pinned (OpenSpec.ofChange fnToldSpec)

/-- ITS FALSE NEIGHBOUR: 'it returns false'. Refute it at one input. -/
def fnToldWrong : ChangeSpec := { name := "fnTold", fn := fun _ => fun
  | [d] => { results := [.lit (.bool false)], args := [d] }
  | _ => none }
def FnToldWrongFalsely : Prop := fnToldRow.holds Try.pinned (OpenSpec.ofChange fnToldWrong)

/-- 'laws.FnSafe33': WHATEVER THE INPUT: true; the input reads as it did. -/
def fnSafe33Spec : ChangeSpec := { name := "fnSafe33", fn := fun _ => fun
  | [d] => { results := [.lit (.bool true)], args := [d] }
  | _ => none }
def fnSafe33Row : OpenClaim := { program := "ytjglikccikeejab", sum := "d4f834cf814d11c59d06667649ec90ff327611f1ffdaff8722f9cf95305fa903", func := "loop.example/disclosurecontrol/laws.FnSafe33", spec := "fnSafe33", unfollowed := true, recurses := true, apart := false }
def FnSafe33Said : Prop := fnSafe33Row.holds Try.pinned (OpenSpec.ofChange fnSafe33Spec)

/-- ITS FALSE NEIGHBOUR: 'it returns false'. Refute it at one input. -/
def fnSafe33Wrong : ChangeSpec := { name := "fnSafe33", fn := fun _ => fun
  | [d] => { results := [.lit (.bool false)], args := [d] }
  | _ => none }
def FnSafe33WrongFalsely : Prop := fnSafe33Row.holds Try.pinned (OpenSpec.ofChange fnSafe33Wrong)

/-- 'laws.FnAskNextLess': WHATEVER THE INPUT: true; the input reads as it did. -/
def fnAskNextLessSpec : ChangeSpec := { name := "fnAskNextLess", fn := fun _ => fun
  | [d] => { results := [.lit (.bool true)], args := [d] }
  | _ => none }
def fnAskNextLessRow : OpenClaim := { program := "ytjglikccikeejab", sum := "d4f834cf814d11c59d06667649ec90ff327611f1ffdaff8722f9cf95305fa903", func := "loop.example/disclosurecontrol/laws.FnAskNextLess", spec := "fnAskNextLess", unfollowed := true, recurses := true, apart := false }
def FnAskNextLessSaid : Prop := fnAskNextLessRow.holds Try.pinned (OpenSpec.ofChange fnAskNextLessSpec)

/-- ITS FALSE NEIGHBOUR: 'it returns false'. Refute it at one input. -/
def fnAskNextLessWrong : ChangeSpec := { name := "fnAskNextLess", fn := fun _ => fun
  | [d] => { results := [.lit (.bool false)], args := [d] }
  | _ => none }
def FnAskNextLessWrongFalsely : Prop := fnAskNextLessRow.holds Try.pinned (OpenSpec.ofChange fnAskNextLessWrong)

/-- 'laws.FnAskNext': WHATEVER THE INPUT: true; the input reads as it did. -/
def fnAskNextSpec : ChangeSpec := { name := "fnAskNext", fn := fun _ => fun
  | [d] => { results := [.lit (.bool true)], args := [d] }
  | _ => none }
def fnAskNextRow : OpenClaim := { program := "ytjglikccikeejab", sum := "d4f834cf814d11c59d06667649ec90ff327611f1ffdaff8722f9cf95305fa903", func := "loop.example/disclosurecontrol/laws.FnAskNext", spec := "fnAskNext", unfollowed := true, recurses := true, apart := false }
def FnAskNextSaid : Prop := fnAskNextRow.holds Try.pinned (OpenSpec.ofChange fnAskNextSpec)

/-- ITS FALSE NEIGHBOUR: 'it returns false'. Refute it at one input. -/
def fnAskNextWrong : ChangeSpec := { name := "fnAskNext", fn := fun _ => fun
  | [d] => { results := [.lit (.bool false)], args := [d] }
  | _ => none }
def FnAskNextWrongFalsely : Prop := fnAskNextRow.holds Try.pinned (OpenSpec.ofChange fnAskNextWrong)

/-- 'laws.FnAskNextEnd': WHATEVER THE INPUT: true; the input reads as it did. -/
def fnAskNextEndSpec : ChangeSpec := { name := "fnAskNextEnd", fn := fun _ => fun
  | [d] => { results := [.lit (.bool true)], args := [d] }
  | _ => none }
def fnAskNextEndRow : OpenClaim := { program := "ytjglikccikeejab", sum := "d4f834cf814d11c59d06667649ec90ff327611f1ffdaff8722f9cf95305fa903", func := "loop.example/disclosurecontrol/laws.FnAskNextEnd", spec := "fnAskNextEnd", unfollowed := true, recurses := true, apart := false }
def FnAskNextEndSaid : Prop := fnAskNextEndRow.holds Try.pinned (OpenSpec.ofChange fnAskNextEndSpec)

/-- ITS FALSE NEIGHBOUR: 'it returns false'. Refute it at one input. -/
def fnAskNextEndWrong : ChangeSpec := { name := "fnAskNextEnd", fn := fun _ => fun
  | [d] => { results := [.lit (.bool false)], args := [d] }
  | _ => none }
def FnAskNextEndWrongFalsely : Prop := fnAskNextEndRow.holds Try.pinned (OpenSpec.ofChange fnAskNextEndWrong)

/- THE SECOND FORM. 'bulk': how many values and letters a reading holds, each counted each time it is reached (what is shared counts as often as it is met; a slice's spare places count too). A statement '..UptoSaid' is the law's where the arguments, and the package variables that the reading takes, are together of bulk at most 1048576: NARROWER than '..Said'. Prove '..Said' where nothing that the law and all that it calls make is longer than what came in: it says more and counts as full. Else prove '..UptoSaid'. A law counts once. -/
mutual
def uptoBulk {H : Type} : DataW H → Nat
  | .lit (.string bytes) => bytes.length + 1
  | .lit _ => 1
  | .nil => 1
  | .ptr d => uptoBulk d + 1
  | .slice elems spare => uptoBulkAll elems + uptoBulkAll spare + 1
  | .agg parts => uptoBulkAll parts + 1
  | .iface _ d => uptoBulk d + 1
  | .map entries => uptoBulkEntries entries + 1
  | .held _ => 1
def uptoBulkAll {H : Type} : List (DataW H) → Nat
  | [] => 0
  | d :: r => uptoBulk d + uptoBulkAll r
def uptoBulkEntries {H : Type} : List (Lit × DataW H) → Nat
  | [] => 0
  | x :: r => uptoBulkEntry x + uptoBulkEntries r
def uptoBulkEntry {H : Type} : Lit × DataW H → Nat
  | (.string bytes, d) => bytes.length + uptoBulk d + 1
  | (_, d) => uptoBulk d + 1
 end
def uptoSmall : (H : Type) → List (DataW H) → Bool := fun _ ds => decide (uptoBulkAll ds ≤ 1048576)
def OpenSpec.upto (s : _root_.Go.ChangeSpec) : _root_.Go.OpenSpec := { _root_.Go.OpenSpec.ofChange s with cond := some uptoSmall }

/-- 'laws.FnTellsOrder', WHERE WHAT IT READS IS OF BULK AT MOST 1048576: true; the input reads as it did. -/
def fnTellsOrderUptoRow : OpenClaim := { program := "ytjglikccikeejab", sum := "d4f834cf814d11c59d06667649ec90ff327611f1ffdaff8722f9cf95305fa903", func := "loop.example/disclosurecontrol/laws.FnTellsOrder", spec := "fnTellsOrder", unfollowed := true, recurses := true, apart := false, narrowed := true }
def FnTellsOrderUptoSaid : Prop := fnTellsOrderUptoRow.holds Try.pinned (OpenSpec.upto fnTellsOrderSpec)

/-- 'laws.FnTells', WHERE WHAT IT READS IS OF BULK AT MOST 1048576: true; the input reads as it did. -/
def fnTellsUptoRow : OpenClaim := { program := "ytjglikccikeejab", sum := "d4f834cf814d11c59d06667649ec90ff327611f1ffdaff8722f9cf95305fa903", func := "loop.example/disclosurecontrol/laws.FnTells", spec := "fnTells", unfollowed := true, recurses := true, apart := false, narrowed := true }
def FnTellsUptoSaid : Prop := fnTellsUptoRow.holds Try.pinned (OpenSpec.upto fnTellsSpec)

/-- 'laws.FnToldMore', WHERE WHAT IT READS IS OF BULK AT MOST 1048576: true; the input reads as it did. -/
def fnToldMoreUptoRow : OpenClaim := { program := "ytjglikccikeejab", sum := "d4f834cf814d11c59d06667649ec90ff327611f1ffdaff8722f9cf95305fa903", func := "loop.example/disclosurecontrol/laws.FnToldMore", spec := "fnToldMore", unfollowed := true, recurses := true, apart := false, narrowed := true }
def FnToldMoreUptoSaid : Prop := fnToldMoreUptoRow.holds Try.pinned (OpenSpec.upto fnToldMoreSpec)

/-- 'laws.FnToldOrder', WHERE WHAT IT READS IS OF BULK AT MOST 1048576: true; the input reads as it did. -/
def fnToldOrderUptoRow : OpenClaim := { program := "ytjglikccikeejab", sum := "d4f834cf814d11c59d06667649ec90ff327611f1ffdaff8722f9cf95305fa903", func := "loop.example/disclosurecontrol/laws.FnToldOrder", spec := "fnToldOrder", unfollowed := true, recurses := true, apart := false, narrowed := true }
def FnToldOrderUptoSaid : Prop := fnToldOrderUptoRow.holds Try.pinned (OpenSpec.upto fnToldOrderSpec)

/-- 'laws.FnExactAskNext', WHERE WHAT IT READS IS OF BULK AT MOST 1048576: true; the input reads as it did. -/
def fnExactAskNextUptoRow : OpenClaim := { program := "ytjglikccikeejab", sum := "d4f834cf814d11c59d06667649ec90ff327611f1ffdaff8722f9cf95305fa903", func := "loop.example/disclosurecontrol/laws.FnExactAskNext", spec := "fnExactAskNext", unfollowed := true, recurses := true, apart := false, narrowed := true }
def FnExactAskNextUptoSaid : Prop := fnExactAskNextUptoRow.holds Try.pinned (OpenSpec.upto fnExactAskNextSpec)

/-- 'laws.FnTellsPair', WHERE WHAT IT READS IS OF BULK AT MOST 1048576: true; the input reads as it did. -/
def fnTellsPairUptoRow : OpenClaim := { program := "ytjglikccikeejab", sum := "d4f834cf814d11c59d06667649ec90ff327611f1ffdaff8722f9cf95305fa903", func := "loop.example/disclosurecontrol/laws.FnTellsPair", spec := "fnTellsPair", unfollowed := true, recurses := true, apart := false, narrowed := true }
def FnTellsPairUptoSaid : Prop := fnTellsPairUptoRow.holds Try.pinned (OpenSpec.upto fnTellsPairSpec)

/-- 'laws.FnSafeTwice', WHERE WHAT IT READS IS OF BULK AT MOST 1048576: true; the input reads as it did. -/
def fnSafeTwiceUptoRow : OpenClaim := { program := "ytjglikccikeejab", sum := "d4f834cf814d11c59d06667649ec90ff327611f1ffdaff8722f9cf95305fa903", func := "loop.example/disclosurecontrol/laws.FnSafeTwice", spec := "fnSafeTwice", unfollowed := true, recurses := true, apart := false, narrowed := true }
def FnSafeTwiceUptoSaid : Prop := fnSafeTwiceUptoRow.holds Try.pinned (OpenSpec.upto fnSafeTwiceSpec)

/-- 'laws.FnTold', WHERE WHAT IT READS IS OF BULK AT MOST 1048576: true; the input reads as it did. -/
def fnToldUptoRow : OpenClaim := { program := "ytjglikccikeejab", sum := "d4f834cf814d11c59d06667649ec90ff327611f1ffdaff8722f9cf95305fa903", func := "loop.example/disclosurecontrol/laws.FnTold", spec := "fnTold", unfollowed := true, recurses := true, apart := false, narrowed := true }
def FnToldUptoSaid : Prop := fnToldUptoRow.holds Try.pinned (OpenSpec.upto fnToldSpec)

/-- 'laws.FnSafe33', WHERE WHAT IT READS IS OF BULK AT MOST 1048576: true; the input reads as it did. -/
def fnSafe33UptoRow : OpenClaim := { program := "ytjglikccikeejab", sum := "d4f834cf814d11c59d06667649ec90ff327611f1ffdaff8722f9cf95305fa903", func := "loop.example/disclosurecontrol/laws.FnSafe33", spec := "fnSafe33", unfollowed := true, recurses := true, apart := false, narrowed := true }
def FnSafe33UptoSaid : Prop := fnSafe33UptoRow.holds Try.pinned (OpenSpec.upto fnSafe33Spec)

/-- 'laws.FnAskNextLess', WHERE WHAT IT READS IS OF BULK AT MOST 1048576: true; the input reads as it did. -/
def fnAskNextLessUptoRow : OpenClaim := { program := "ytjglikccikeejab", sum := "d4f834cf814d11c59d06667649ec90ff327611f1ffdaff8722f9cf95305fa903", func := "loop.example/disclosurecontrol/laws.FnAskNextLess", spec := "fnAskNextLess", unfollowed := true, recurses := true, apart := false, narrowed := true }
def FnAskNextLessUptoSaid : Prop := fnAskNextLessUptoRow.holds Try.pinned (OpenSpec.upto fnAskNextLessSpec)

/-- 'laws.FnAskNext', WHERE WHAT IT READS IS OF BULK AT MOST 1048576: true; the input reads as it did. -/
def fnAskNextUptoRow : OpenClaim := { program := "ytjglikccikeejab", sum := "d4f834cf814d11c59d06667649ec90ff327611f1ffdaff8722f9cf95305fa903", func := "loop.example/disclosurecontrol/laws.FnAskNext", spec := "fnAskNext", unfollowed := true, recurses := true, apart := false, narrowed := true }
def FnAskNextUptoSaid : Prop := fnAskNextUptoRow.holds Try.pinned (OpenSpec.upto fnAskNextSpec)

/-- 'laws.FnAskNextEnd', WHERE WHAT IT READS IS OF BULK AT MOST 1048576: true; the input reads as it did. -/
def fnAskNextEndUptoRow : OpenClaim := { program := "ytjglikccikeejab", sum := "d4f834cf814d11c59d06667649ec90ff327611f1ffdaff8722f9cf95305fa903", func := "loop.example/disclosurecontrol/laws.FnAskNextEnd", spec := "fnAskNextEnd", unfollowed := true, recurses := true, apart := false, narrowed := true }
def FnAskNextEndUptoSaid : Prop := fnAskNextEndUptoRow.holds Try.pinned (OpenSpec.upto fnAskNextEndSpec)

end Rows
end Go.Proofs.Ytjglikccikeejab
