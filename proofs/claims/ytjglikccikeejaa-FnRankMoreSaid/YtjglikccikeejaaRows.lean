/-
  No cell of these rows narrows 'for every input' (looked for: loops, veiled, ifaces, maps, wideKeys, modest, calm, conditions, laid).
  DERIVED. THE GIVEN ROWS OF THIS SEAT. 12 by the template 'for every input the law returns true; each argument reads behind the call as it read before'; 0 by the template 'total and deterministic' (their statements: YtjglikccikeejaaTotals.lean).
  GIVEN WITH THE SEED: the statements are not yours to turn. If you find one false, say at which input.
  Laid BY PROGRAM, IN A SANDBOX (cutbox-rows.mjs): the forced cells as the released guide's own fill.sh prints them over the translation 53d82183c93a22b3… (all of the seat's roots in one cut). By AI agents, Wed Nov 11 2026. No macro, syntax, notation, axiom, sorry.
-/
import Derived.Test.YtjglikccikeejaaChecked
import GoSem.Claim
import GoSem.ClaimJoined
import GoSem.ClaimMapViews
import Derived.JoinedTies
import Derived.KernelRfl
namespace Go.Proofs.Ytjglikccikeejaa
/- THE CELL 'sum', in the pinned program and in every row, IS THE sha256 OF THE DUMP (.gsa) THAT YtjglikccikeejaaProg.lean LOADS. Nothing in Lean hashes anything: it is a label: what it is worth is what the hold of that sum in a sandbox is worth. -/
noncomputable def Try.pinned : Pinned := { name := "ytjglikccikeejaa", sum := "53d82183c93a22b3128cc15f45c926ec444ab1b925ecd79cb67964bc7118a748", checked := Try.checked }
namespace Rows
def none {H : Type} : Left H := { results := [], args := [] }

/-- 'laws.FnQuestions': WHATEVER THE INPUT: true; the input reads as it did. -/
def fnQuestionsSpec : ChangeSpec := { name := "fnQuestions", fn := fun _ => fun
  | [d1, d2] => { results := [.lit (.bool true)], args := [d1, d2] }
  | _ => none }
def fnQuestionsRow : OpenClaim := { program := "ytjglikccikeejaa", sum := "53d82183c93a22b3128cc15f45c926ec444ab1b925ecd79cb67964bc7118a748", func := "loop.example/disclosurecontrol/laws.FnQuestions", spec := "fnQuestions", apart := false }
def FnQuestionsSaid : Prop := fnQuestionsRow.holds Try.pinned (OpenSpec.ofChange fnQuestionsSpec)

/-- ITS FALSE NEIGHBOUR: 'it returns false'. Refute it at one input. -/
def fnQuestionsWrong : ChangeSpec := { name := "fnQuestions", fn := fun _ => fun
  | [d1, d2] => { results := [.lit (.bool false)], args := [d1, d2] }
  | _ => none }
def FnQuestionsWrongFalsely : Prop := fnQuestionsRow.holds Try.pinned (OpenSpec.ofChange fnQuestionsWrong)

/-- 'laws.FnExactAskRank': WHATEVER THE INPUT: true; the input reads as it did. -/
def fnExactAskRankSpec : ChangeSpec := { name := "fnExactAskRank", fn := fun _ => fun
  | [d1, d2] => { results := [.lit (.bool true)], args := [d1, d2] }
  | _ => none }
def fnExactAskRankRow : OpenClaim := { program := "ytjglikccikeejaa", sum := "53d82183c93a22b3128cc15f45c926ec444ab1b925ecd79cb67964bc7118a748", func := "loop.example/disclosurecontrol/laws.FnExactAskRank", spec := "fnExactAskRank", unfollowed := true, recurses := true, apart := false }
def FnExactAskRankSaid : Prop := fnExactAskRankRow.holds Try.pinned (OpenSpec.ofChange fnExactAskRankSpec)

/-- ITS FALSE NEIGHBOUR: 'it returns false'. Refute it at one input. -/
def fnExactAskRankWrong : ChangeSpec := { name := "fnExactAskRank", fn := fun _ => fun
  | [d1, d2] => { results := [.lit (.bool false)], args := [d1, d2] }
  | _ => none }
def FnExactAskRankWrongFalsely : Prop := fnExactAskRankRow.holds Try.pinned (OpenSpec.ofChange fnExactAskRankWrong)

/-- 'laws.FnSafeAll': WHATEVER THE INPUT: true; the input reads as it did. -/
def fnSafeAllSpec : ChangeSpec := { name := "fnSafeAll", fn := fun _ => fun
  | [d1, d2] => { results := [.lit (.bool true)], args := [d1, d2] }
  | _ => none }
def fnSafeAllRow : OpenClaim := { program := "ytjglikccikeejaa", sum := "53d82183c93a22b3128cc15f45c926ec444ab1b925ecd79cb67964bc7118a748", func := "loop.example/disclosurecontrol/laws.FnSafeAll", spec := "fnSafeAll", unfollowed := true, recurses := true, apart := false }
def FnSafeAllSaid : Prop := fnSafeAllRow.holds Try.pinned (OpenSpec.ofChange fnSafeAllSpec)

/-- ITS FALSE NEIGHBOUR: 'it returns false'. Refute it at one input. -/
def fnSafeAllWrong : ChangeSpec := { name := "fnSafeAll", fn := fun _ => fun
  | [d1, d2] => { results := [.lit (.bool false)], args := [d1, d2] }
  | _ => none }
def FnSafeAllWrongFalsely : Prop := fnSafeAllRow.holds Try.pinned (OpenSpec.ofChange fnSafeAllWrong)

/-- 'laws.FnRank': WHATEVER THE INPUT: true; the input reads as it did. -/
def fnRankSpec : ChangeSpec := { name := "fnRank", fn := fun _ => fun
  | [d1, d2] => { results := [.lit (.bool true)], args := [d1, d2] }
  | _ => none }
def fnRankRow : OpenClaim := { program := "ytjglikccikeejaa", sum := "53d82183c93a22b3128cc15f45c926ec444ab1b925ecd79cb67964bc7118a748", func := "loop.example/disclosurecontrol/laws.FnRank", spec := "fnRank", unfollowed := true, recurses := true, apart := false }
def FnRankSaid : Prop := fnRankRow.holds Try.pinned (OpenSpec.ofChange fnRankSpec)

/-- ITS FALSE NEIGHBOUR: 'it returns false'. Refute it at one input. -/
def fnRankWrong : ChangeSpec := { name := "fnRank", fn := fun _ => fun
  | [d1, d2] => { results := [.lit (.bool false)], args := [d1, d2] }
  | _ => none }
def FnRankWrongFalsely : Prop := fnRankRow.holds Try.pinned (OpenSpec.ofChange fnRankWrong)

/-- 'laws.FnRankAll': WHATEVER THE INPUT: true; the input reads as it did. -/
def fnRankAllSpec : ChangeSpec := { name := "fnRankAll", fn := fun _ => fun
  | [d1, d2] => { results := [.lit (.bool true)], args := [d1, d2] }
  | _ => none }
def fnRankAllRow : OpenClaim := { program := "ytjglikccikeejaa", sum := "53d82183c93a22b3128cc15f45c926ec444ab1b925ecd79cb67964bc7118a748", func := "loop.example/disclosurecontrol/laws.FnRankAll", spec := "fnRankAll", unfollowed := true, recurses := true, apart := false }
def FnRankAllSaid : Prop := fnRankAllRow.holds Try.pinned (OpenSpec.ofChange fnRankAllSpec)

/-- ITS FALSE NEIGHBOUR: 'it returns false'. Refute it at one input. -/
def fnRankAllWrong : ChangeSpec := { name := "fnRankAll", fn := fun _ => fun
  | [d1, d2] => { results := [.lit (.bool false)], args := [d1, d2] }
  | _ => none }
def FnRankAllWrongFalsely : Prop := fnRankAllRow.holds Try.pinned (OpenSpec.ofChange fnRankAllWrong)

/-- 'laws.FnRankMore': WHATEVER THE INPUT: true; the input reads as it did. -/
def fnRankMoreSpec : ChangeSpec := { name := "fnRankMore", fn := fun _ => fun
  | [d1, d2] => { results := [.lit (.bool true)], args := [d1, d2] }
  | _ => none }
def fnRankMoreRow : OpenClaim := { program := "ytjglikccikeejaa", sum := "53d82183c93a22b3128cc15f45c926ec444ab1b925ecd79cb67964bc7118a748", func := "loop.example/disclosurecontrol/laws.FnRankMore", spec := "fnRankMore", unfollowed := true, recurses := true, apart := false }
def FnRankMoreSaid : Prop := fnRankMoreRow.holds Try.pinned (OpenSpec.ofChange fnRankMoreSpec)

/-- ITS FALSE NEIGHBOUR: 'it returns false'. Refute it at one input. -/
def fnRankMoreWrong : ChangeSpec := { name := "fnRankMore", fn := fun _ => fun
  | [d1, d2] => { results := [.lit (.bool false)], args := [d1, d2] }
  | _ => none }
def FnRankMoreWrongFalsely : Prop := fnRankMoreRow.holds Try.pinned (OpenSpec.ofChange fnRankMoreWrong)

/-- 'laws.FnRankTwo': WHATEVER THE INPUT: true; the input reads as it did. -/
def fnRankTwoSpec : ChangeSpec := { name := "fnRankTwo", fn := fun _ => fun
  | [d1, d2] => { results := [.lit (.bool true)], args := [d1, d2] }
  | _ => none }
def fnRankTwoRow : OpenClaim := { program := "ytjglikccikeejaa", sum := "53d82183c93a22b3128cc15f45c926ec444ab1b925ecd79cb67964bc7118a748", func := "loop.example/disclosurecontrol/laws.FnRankTwo", spec := "fnRankTwo", unfollowed := true, recurses := true, apart := false }
def FnRankTwoSaid : Prop := fnRankTwoRow.holds Try.pinned (OpenSpec.ofChange fnRankTwoSpec)

/-- ITS FALSE NEIGHBOUR: 'it returns false'. Refute it at one input. -/
def fnRankTwoWrong : ChangeSpec := { name := "fnRankTwo", fn := fun _ => fun
  | [d1, d2] => { results := [.lit (.bool false)], args := [d1, d2] }
  | _ => none }
def FnRankTwoWrongFalsely : Prop := fnRankTwoRow.holds Try.pinned (OpenSpec.ofChange fnRankTwoWrong)

/-- 'laws.FnExactAskTells': WHATEVER THE INPUT: true; the input reads as it did. -/
def fnExactAskTellsSpec : ChangeSpec := { name := "fnExactAskTells", fn := fun _ => fun
  | [d1, d2, d3] => { results := [.lit (.bool true)], args := [d1, d2, d3] }
  | _ => none }
def fnExactAskTellsRow : OpenClaim := { program := "ytjglikccikeejaa", sum := "53d82183c93a22b3128cc15f45c926ec444ab1b925ecd79cb67964bc7118a748", func := "loop.example/disclosurecontrol/laws.FnExactAskTells", spec := "fnExactAskTells", unfollowed := true, recurses := true, apart := false }
def FnExactAskTellsSaid : Prop := fnExactAskTellsRow.holds Try.pinned (OpenSpec.ofChange fnExactAskTellsSpec)

/-- ITS FALSE NEIGHBOUR: 'it returns false'. Refute it at one input. -/
def fnExactAskTellsWrong : ChangeSpec := { name := "fnExactAskTells", fn := fun _ => fun
  | [d1, d2, d3] => { results := [.lit (.bool false)], args := [d1, d2, d3] }
  | _ => none }
def FnExactAskTellsWrongFalsely : Prop := fnExactAskTellsRow.holds Try.pinned (OpenSpec.ofChange fnExactAskTellsWrong)

/-- 'laws.FnExactAskTold': WHATEVER THE INPUT: true; the input reads as it did. -/
def fnExactAskToldSpec : ChangeSpec := { name := "fnExactAskTold", fn := fun _ => fun
  | [d1, d2] => { results := [.lit (.bool true)], args := [d1, d2] }
  | _ => none }
def fnExactAskToldRow : OpenClaim := { program := "ytjglikccikeejaa", sum := "53d82183c93a22b3128cc15f45c926ec444ab1b925ecd79cb67964bc7118a748", func := "loop.example/disclosurecontrol/laws.FnExactAskTold", spec := "fnExactAskTold", unfollowed := true, recurses := true, apart := false }
def FnExactAskToldSaid : Prop := fnExactAskToldRow.holds Try.pinned (OpenSpec.ofChange fnExactAskToldSpec)

/-- ITS FALSE NEIGHBOUR: 'it returns false'. Refute it at one input. -/
def fnExactAskToldWrong : ChangeSpec := { name := "fnExactAskTold", fn := fun _ => fun
  | [d1, d2] => { results := [.lit (.bool false)], args := [d1, d2] }
  | _ => none }
def FnExactAskToldWrongFalsely : Prop := fnExactAskToldRow.holds Try.pinned (OpenSpec.ofChange fnExactAskToldWrong)

/-- 'laws.FnExactAskSafe': WHATEVER THE INPUT: true; the input reads as it did. -/
def fnExactAskSafeSpec : ChangeSpec := { name := "fnExactAskSafe", fn := fun _ => fun
  | [d1, d2, d3] => { results := [.lit (.bool true)], args := [d1, d2, d3] }
  | _ => none }
def fnExactAskSafeRow : OpenClaim := { program := "ytjglikccikeejaa", sum := "53d82183c93a22b3128cc15f45c926ec444ab1b925ecd79cb67964bc7118a748", func := "loop.example/disclosurecontrol/laws.FnExactAskSafe", spec := "fnExactAskSafe", unfollowed := true, recurses := true, apart := false }
def FnExactAskSafeSaid : Prop := fnExactAskSafeRow.holds Try.pinned (OpenSpec.ofChange fnExactAskSafeSpec)

/-- ITS FALSE NEIGHBOUR: 'it returns false'. Refute it at one input. -/
def fnExactAskSafeWrong : ChangeSpec := { name := "fnExactAskSafe", fn := fun _ => fun
  | [d1, d2, d3] => { results := [.lit (.bool false)], args := [d1, d2, d3] }
  | _ => none }
def FnExactAskSafeWrongFalsely : Prop := fnExactAskSafeRow.holds Try.pinned (OpenSpec.ofChange fnExactAskSafeWrong)

/-- 'laws.FnTellsOne': WHATEVER THE INPUT: true; the input reads as it did. -/
def fnTellsOneSpec : ChangeSpec := { name := "fnTellsOne", fn := fun _ => fun
  | [d1, d2] => { results := [.lit (.bool true)], args := [d1, d2] }
  | _ => none }
def fnTellsOneRow : OpenClaim := { program := "ytjglikccikeejaa", sum := "53d82183c93a22b3128cc15f45c926ec444ab1b925ecd79cb67964bc7118a748", func := "loop.example/disclosurecontrol/laws.FnTellsOne", spec := "fnTellsOne", unfollowed := true, recurses := true, apart := false }
def FnTellsOneSaid : Prop := fnTellsOneRow.holds Try.pinned (OpenSpec.ofChange fnTellsOneSpec)

/-- ITS FALSE NEIGHBOUR: 'it returns false'. Refute it at one input. -/
def fnTellsOneWrong : ChangeSpec := { name := "fnTellsOne", fn := fun _ => fun
  | [d1, d2] => { results := [.lit (.bool false)], args := [d1, d2] }
  | _ => none }
def FnTellsOneWrongFalsely : Prop := fnTellsOneRow.holds Try.pinned (OpenSpec.ofChange fnTellsOneWrong)

/-- 'laws.FnTellsTwo': WHATEVER THE INPUT: true; the input reads as it did. -/
def fnTellsTwoSpec : ChangeSpec := { name := "fnTellsTwo", fn := fun _ => fun
  | [d1, d2] => { results := [.lit (.bool true)], args := [d1, d2] }
  | _ => none }
def fnTellsTwoRow : OpenClaim := { program := "ytjglikccikeejaa", sum := "53d82183c93a22b3128cc15f45c926ec444ab1b925ecd79cb67964bc7118a748", func := "loop.example/disclosurecontrol/laws.FnTellsTwo", spec := "fnTellsTwo", unfollowed := true, recurses := true, apart := false }
def FnTellsTwoSaid : Prop := fnTellsTwoRow.holds Try.pinned (OpenSpec.ofChange fnTellsTwoSpec)

/-- ITS FALSE NEIGHBOUR: 'it returns false'. Refute it at one input. -/
def fnTellsTwoWrong : ChangeSpec := { name := "fnTellsTwo", fn := fun _ => fun
  | [d1, d2] => { results := [.lit (.bool false)], args := [d1, d2] }
  | _ => none }
def FnTellsTwoWrongFalsely : Prop := fnTellsTwoRow.holds Try.pinned (OpenSpec.ofChange fnTellsTwoWrong)

/- THE SECOND FORM. 'bulk': how many values and letters a reading holds, each counted each time it is reached (what is shared counts as often as it is met; a slice's spare places count too). A statement '..UptoSaid' is the law's where the arguments, and the package variables that the reading takes, are together of bulk at most 1048576: NARROWER than '..Said'. Prove '..Said' where nothing that the law and all that it calls make is longer than what came in: it says more and counts as full. Else prove '..UptoSaid'. A law counts once. -/
mutual
def uptoBulk {H : Type} : DataW H → Nat
  | .lit (.string bytes) => bytes.length + 1
  | .lit _ => 1
  | .nil => 1
  | .ptr d => uptoBulk d + 1
  | .slice elems spare => uptoBulkAll elems + uptoBulkAll spare + 1
  | .agg parts => uptoBulkAll parts + 1
  | .iface _ d => uptoBulk d + 1
  | .map entries => uptoBulkEntries entries + 1
  | .held _ => 1
def uptoBulkAll {H : Type} : List (DataW H) → Nat
  | [] => 0
  | d :: r => uptoBulk d + uptoBulkAll r
def uptoBulkEntries {H : Type} : List (Lit × DataW H) → Nat
  | [] => 0
  | x :: r => uptoBulkEntry x + uptoBulkEntries r
def uptoBulkEntry {H : Type} : Lit × DataW H → Nat
  | (.string bytes, d) => bytes.length + uptoBulk d + 1
  | (_, d) => uptoBulk d + 1
 end
def uptoSmall : (H : Type) → List (DataW H) → Bool := fun _ ds => decide (uptoBulkAll ds ≤ 1048576)
def OpenSpec.upto (s : _root_.Go.ChangeSpec) : _root_.Go.OpenSpec := { _root_.Go.OpenSpec.ofChange s with cond := some uptoSmall }

/-- 'laws.FnQuestions', WHERE WHAT IT READS IS OF BULK AT MOST 1048576: true; the input reads as it did. -/
def fnQuestionsUptoRow : OpenClaim := { program := "ytjglikccikeejaa", sum := "53d82183c93a22b3128cc15f45c926ec444ab1b925ecd79cb67964bc7118a748", func := "loop.example/disclosurecontrol/laws.FnQuestions", spec := "fnQuestions", apart := false, narrowed := true }
def FnQuestionsUptoSaid : Prop := fnQuestionsUptoRow.holds Try.pinned (OpenSpec.upto fnQuestionsSpec)

/-- 'laws.FnExactAskRank', WHERE WHAT IT READS IS OF BULK AT MOST 1048576: true; the input reads as it did. -/
def fnExactAskRankUptoRow : OpenClaim := { program := "ytjglikccikeejaa", sum := "53d82183c93a22b3128cc15f45c926ec444ab1b925ecd79cb67964bc7118a748", func := "loop.example/disclosurecontrol/laws.FnExactAskRank", spec := "fnExactAskRank", unfollowed := true, recurses := true, apart := false, narrowed := true }
def FnExactAskRankUptoSaid : Prop := fnExactAskRankUptoRow.holds Try.pinned (OpenSpec.upto fnExactAskRankSpec)

/-- 'laws.FnSafeAll', WHERE WHAT IT READS IS OF BULK AT MOST 1048576: true; the input reads as it did. -/
def fnSafeAllUptoRow : OpenClaim := { program := "ytjglikccikeejaa", sum := "53d82183c93a22b3128cc15f45c926ec444ab1b925ecd79cb67964bc7118a748", func := "loop.example/disclosurecontrol/laws.FnSafeAll", spec := "fnSafeAll", unfollowed := true, recurses := true, apart := false, narrowed := true }
def FnSafeAllUptoSaid : Prop := fnSafeAllUptoRow.holds Try.pinned (OpenSpec.upto fnSafeAllSpec)

/-- 'laws.FnRank', WHERE WHAT IT READS IS OF BULK AT MOST 1048576: true; the input reads as it did. -/
def fnRankUptoRow : OpenClaim := { program := "ytjglikccikeejaa", sum := "53d82183c93a22b3128cc15f45c926ec444ab1b925ecd79cb67964bc7118a748", func := "loop.example/disclosurecontrol/laws.FnRank", spec := "fnRank", unfollowed := true, recurses := true, apart := false, narrowed := true }
def FnRankUptoSaid : Prop := fnRankUptoRow.holds Try.pinned (OpenSpec.upto fnRankSpec)

/-- 'laws.FnRankAll', WHERE WHAT IT READS IS OF BULK AT MOST 1048576: true; the input reads as it did. -/
def fnRankAllUptoRow : OpenClaim := { program := "ytjglikccikeejaa", sum := "53d82183c93a22b3128cc15f45c926ec444ab1b925ecd79cb67964bc7118a748", func := "loop.example/disclosurecontrol/laws.FnRankAll", spec := "fnRankAll", unfollowed := true, recurses := true, apart := false, narrowed := true }
def FnRankAllUptoSaid : Prop := fnRankAllUptoRow.holds Try.pinned (OpenSpec.upto fnRankAllSpec)

/-- 'laws.FnRankMore', WHERE WHAT IT READS IS OF BULK AT MOST 1048576: true; the input reads as it did. -/
def fnRankMoreUptoRow : OpenClaim := { program := "ytjglikccikeejaa", sum := "53d82183c93a22b3128cc15f45c926ec444ab1b925ecd79cb67964bc7118a748", func := "loop.example/disclosurecontrol/laws.FnRankMore", spec := "fnRankMore", unfollowed := true, recurses := true, apart := false, narrowed := true }
def FnRankMoreUptoSaid : Prop := fnRankMoreUptoRow.holds Try.pinned (OpenSpec.upto fnRankMoreSpec)

/-- 'laws.FnRankTwo', WHERE WHAT IT READS IS OF BULK AT MOST 1048576: true; the input reads as it did. -/
def fnRankTwoUptoRow : OpenClaim := { program := "ytjglikccikeejaa", sum := "53d82183c93a22b3128cc15f45c926ec444ab1b925ecd79cb67964bc7118a748", func := "loop.example/disclosurecontrol/laws.FnRankTwo", spec := "fnRankTwo", unfollowed := true, recurses := true, apart := false, narrowed := true }
def FnRankTwoUptoSaid : Prop := fnRankTwoUptoRow.holds Try.pinned (OpenSpec.upto fnRankTwoSpec)

/-- 'laws.FnExactAskTells', WHERE WHAT IT READS IS OF BULK AT MOST 1048576: true; the input reads as it did. -/
def fnExactAskTellsUptoRow : OpenClaim := { program := "ytjglikccikeejaa", sum := "53d82183c93a22b3128cc15f45c926ec444ab1b925ecd79cb67964bc7118a748", func := "loop.example/disclosurecontrol/laws.FnExactAskTells", spec := "fnExactAskTells", unfollowed := true, recurses := true, apart := false, narrowed := true }
def FnExactAskTellsUptoSaid : Prop := fnExactAskTellsUptoRow.holds Try.pinned (OpenSpec.upto fnExactAskTellsSpec)

/-- 'laws.FnExactAskTold', WHERE WHAT IT READS IS OF BULK AT MOST 1048576: true; the input reads as it did. -/
def fnExactAskToldUptoRow : OpenClaim := { program := "ytjglikccikeejaa", sum := "53d82183c93a22b3128cc15f45c926ec444ab1b925ecd79cb67964bc7118a748", func := "loop.example/disclosurecontrol/laws.FnExactAskTold", spec := "fnExactAskTold", unfollowed := true, recurses := true, apart := false, narrowed := true }
def FnExactAskToldUptoSaid : Prop := fnExactAskToldUptoRow.holds Try.pinned (OpenSpec.upto fnExactAskToldSpec)

/-- 'laws.FnExactAskSafe', WHERE WHAT IT READS IS OF BULK AT MOST 1048576: true; the input reads as it did. -/
def fnExactAskSafeUptoRow : OpenClaim := { program := "ytjglikccikeejaa", sum := "53d82183c93a22b3128cc15f45c926ec444ab1b925ecd79cb67964bc7118a748", func := "loop.example/disclosurecontrol/laws.FnExactAskSafe", spec := "fnExactAskSafe", unfollowed := true, recurses := true, apart := false, narrowed := true }
def FnExactAskSafeUptoSaid : Prop := fnExactAskSafeUptoRow.holds Try.pinned (OpenSpec.upto fnExactAskSafeSpec)

/-- 'laws.FnTellsOne', WHERE WHAT IT READS IS OF BULK AT MOST 1048576: true; the input reads as it did. -/
def fnTellsOneUptoRow : OpenClaim := { program := "ytjglikccikeejaa", sum := "53d82183c93a22b3128cc15f45c926ec444ab1b925ecd79cb67964bc7118a748", func := "loop.example/disclosurecontrol/laws.FnTellsOne", spec := "fnTellsOne", unfollowed := true, recurses := true, apart := false, narrowed := true }
def FnTellsOneUptoSaid : Prop := fnTellsOneUptoRow.holds Try.pinned (OpenSpec.upto fnTellsOneSpec)

/-- 'laws.FnTellsTwo', WHERE WHAT IT READS IS OF BULK AT MOST 1048576: true; the input reads as it did. -/
def fnTellsTwoUptoRow : OpenClaim := { program := "ytjglikccikeejaa", sum := "53d82183c93a22b3128cc15f45c926ec444ab1b925ecd79cb67964bc7118a748", func := "loop.example/disclosurecontrol/laws.FnTellsTwo", spec := "fnTellsTwo", unfollowed := true, recurses := true, apart := false, narrowed := true }
def FnTellsTwoUptoSaid : Prop := fnTellsTwoUptoRow.holds Try.pinned (OpenSpec.upto fnTellsTwoSpec)

end Rows
end Go.Proofs.Ytjglikccikeejaa
