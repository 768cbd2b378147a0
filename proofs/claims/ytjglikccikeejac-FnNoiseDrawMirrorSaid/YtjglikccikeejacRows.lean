/-
  No cell of these rows narrows 'for every input' (looked for: loops, veiled, ifaces, maps, wideKeys, modest, calm, conditions, laid).
  DERIVED. THE GIVEN ROWS OF THIS SEAT. 4 by the template 'for every input the law returns true; each argument reads behind the call as it read before'; 0 by the template 'total and deterministic' (their statements: YtjglikccikeejacTotals.lean).
  GIVEN WITH THE SEED: the statements are not yours to turn. If you find one false, say at which input.
  Laid BY PROGRAM, IN A SANDBOX (cutbox-rows.mjs): the forced cells as the released guide's own fill.sh prints them over the translation f7b785be1e89ad64… (all of the seat's roots in one cut). By AI agents, Wed Nov 11 2026. No macro, syntax, notation, axiom, sorry.
-/
import Derived.Test.YtjglikccikeejacChecked
import GoSem.Claim
import GoSem.ClaimJoined
import GoSem.ClaimMapViews
import Derived.JoinedTies
import Derived.KernelRfl
namespace Go.Proofs.Ytjglikccikeejac
/- THE CELL 'sum', in the pinned program and in every row, IS THE sha256 OF THE DUMP (.gsa) THAT YtjglikccikeejacProg.lean LOADS. Nothing in Lean hashes anything: it is a label: what it is worth is what the hold of that sum in a sandbox is worth. -/
noncomputable def Try.pinned : Pinned := { name := "ytjglikccikeejac", sum := "f7b785be1e89ad6498c7c5d711112f1de1b4406c497027e140913a7d097d0341", checked := Try.checked }
namespace Rows
def none {H : Type} : Left H := { results := [], args := [] }

/-- 'laws.FnNoiseDraw': WHATEVER THE INPUT: true; the input reads as it did. -/
def fnNoiseDrawSpec : ChangeSpec := { name := "fnNoiseDraw", fn := fun _ => fun
  | [d] => { results := [.lit (.bool true)], args := [d] }
  | _ => none }
def fnNoiseDrawRow : OpenClaim := { program := "ytjglikccikeejac", sum := "f7b785be1e89ad6498c7c5d711112f1de1b4406c497027e140913a7d097d0341", func := "loop.example/disclosurecontrol/laws.FnNoiseDraw", spec := "fnNoiseDraw", apart := false }
def FnNoiseDrawSaid : Prop := fnNoiseDrawRow.holds Try.pinned (OpenSpec.ofChange fnNoiseDrawSpec)

/-- ITS FALSE NEIGHBOUR: 'it returns false'. Refute it at one input. -/
def fnNoiseDrawWrong : ChangeSpec := { name := "fnNoiseDraw", fn := fun _ => fun
  | [d] => { results := [.lit (.bool false)], args := [d] }
  | _ => none }
def FnNoiseDrawWrongFalsely : Prop := fnNoiseDrawRow.holds Try.pinned (OpenSpec.ofChange fnNoiseDrawWrong)

/-- 'laws.FnNoiseDrawMirror': WHATEVER THE INPUT: true; the input reads as it did. -/
def fnNoiseDrawMirrorSpec : ChangeSpec := { name := "fnNoiseDrawMirror", fn := fun _ => fun
  | [d] => { results := [.lit (.bool true)], args := [d] }
  | _ => none }
def fnNoiseDrawMirrorRow : OpenClaim := { program := "ytjglikccikeejac", sum := "f7b785be1e89ad6498c7c5d711112f1de1b4406c497027e140913a7d097d0341", func := "loop.example/disclosurecontrol/laws.FnNoiseDrawMirror", spec := "fnNoiseDrawMirror", apart := false }
def FnNoiseDrawMirrorSaid : Prop := fnNoiseDrawMirrorRow.holds Try.pinned (OpenSpec.ofChange fnNoiseDrawMirrorSpec)

/-- ITS FALSE NEIGHBOUR: 'it returns false'. Refute it at one input. -/
def fnNoiseDrawMirrorWrong : ChangeSpec := { name := "fnNoiseDrawMirror", fn := fun _ => fun
  | [d] => { results := [.lit (.bool false)], args := [d] }
  | _ => none }
def FnNoiseDrawMirrorWrongFalsely : Prop := fnNoiseDrawMirrorRow.holds Try.pinned (OpenSpec.ofChange fnNoiseDrawMirrorWrong)

/-- 'laws.FnNoiseDrawRises': WHATEVER THE INPUT: true; the input reads as it did. -/
def fnNoiseDrawRisesSpec : ChangeSpec := { name := "fnNoiseDrawRises", fn := fun _ => fun
  | [d] => { results := [.lit (.bool true)], args := [d] }
  | _ => none }
def fnNoiseDrawRisesRow : OpenClaim := { program := "ytjglikccikeejac", sum := "f7b785be1e89ad6498c7c5d711112f1de1b4406c497027e140913a7d097d0341", func := "loop.example/disclosurecontrol/laws.FnNoiseDrawRises", spec := "fnNoiseDrawRises", apart := false }
def FnNoiseDrawRisesSaid : Prop := fnNoiseDrawRisesRow.holds Try.pinned (OpenSpec.ofChange fnNoiseDrawRisesSpec)

/-- ITS FALSE NEIGHBOUR: 'it returns false'. Refute it at one input. -/
def fnNoiseDrawRisesWrong : ChangeSpec := { name := "fnNoiseDrawRises", fn := fun _ => fun
  | [d] => { results := [.lit (.bool false)], args := [d] }
  | _ => none }
def FnNoiseDrawRisesWrongFalsely : Prop := fnNoiseDrawRisesRow.holds Try.pinned (OpenSpec.ofChange fnNoiseDrawRisesWrong)

/-- 'laws.FnNoiseDrawWeight': WHATEVER THE INPUT: true; the input reads as it did. -/
def fnNoiseDrawWeightSpec : ChangeSpec := { name := "fnNoiseDrawWeight", fn := fun _ => fun
  | [d] => { results := [.lit (.bool true)], args := [d] }
  | _ => none }
def fnNoiseDrawWeightRow : OpenClaim := { program := "ytjglikccikeejac", sum := "f7b785be1e89ad6498c7c5d711112f1de1b4406c497027e140913a7d097d0341", func := "loop.example/disclosurecontrol/laws.FnNoiseDrawWeight", spec := "fnNoiseDrawWeight", apart := false }
def FnNoiseDrawWeightSaid : Prop := fnNoiseDrawWeightRow.holds Try.pinned (OpenSpec.ofChange fnNoiseDrawWeightSpec)

/-- ITS FALSE NEIGHBOUR: 'it returns false'. Refute it at one input. -/
def fnNoiseDrawWeightWrong : ChangeSpec := { name := "fnNoiseDrawWeight", fn := fun _ => fun
  | [d] => { results := [.lit (.bool false)], args := [d] }
  | _ => none }
def FnNoiseDrawWeightWrongFalsely : Prop := fnNoiseDrawWeightRow.holds Try.pinned (OpenSpec.ofChange fnNoiseDrawWeightWrong)

/- THE SECOND FORM. 'bulk': how many values and letters a reading holds, each counted each time it is reached (what is shared counts as often as it is met; a slice's spare places count too). A statement '..UptoSaid' is the law's where the arguments, and the package variables that the reading takes, are together of bulk at most 1048576: NARROWER than '..Said'. Prove '..Said' where nothing that the law and all that it calls make is longer than what came in: it says more and counts as full. Else prove '..UptoSaid'. A law counts once. -/
mutual
def uptoBulk {H : Type} : DataW H → Nat
  | .lit (.string bytes) => bytes.length + 1
  | .lit _ => 1
  | .nil => 1
  | .ptr d => uptoBulk d + 1
  | .slice elems spare => uptoBulkAll elems + uptoBulkAll spare + 1
  | .agg parts => uptoBulkAll parts + 1
  | .iface _ d => uptoBulk d + 1
  | .map entries => uptoBulkEntries entries + 1
  | .held _ => 1
def uptoBulkAll {H : Type} : List (DataW H) → Nat
  | [] => 0
  | d :: r => uptoBulk d + uptoBulkAll r
def uptoBulkEntries {H : Type} : List (Lit × DataW H) → Nat
  | [] => 0
  | x :: r => uptoBulkEntry x + uptoBulkEntries r
def uptoBulkEntry {H : Type} : Lit × DataW H → Nat
  | (.string bytes, d) => bytes.length + uptoBulk d + 1
  | (_, d) => uptoBulk d + 1
 end
def uptoSmall : (H : Type) → List (DataW H) → Bool := fun _ ds => decide (uptoBulkAll ds ≤ 1048576)
def OpenSpec.upto (s : _root_.Go.ChangeSpec) : _root_.Go.OpenSpec := { _root_.Go.OpenSpec.ofChange s with cond := some uptoSmall }

/-- 'laws.FnNoiseDraw', WHERE WHAT IT READS IS OF BULK AT MOST 1048576: true; the input reads as it did. -/
def fnNoiseDrawUptoRow : OpenClaim := { program := "ytjglikccikeejac", sum := "f7b785be1e89ad6498c7c5d711112f1de1b4406c497027e140913a7d097d0341", func := "loop.example/disclosurecontrol/laws.FnNoiseDraw", spec := "fnNoiseDraw", apart := false, narrowed := true }
def FnNoiseDrawUptoSaid : Prop := fnNoiseDrawUptoRow.holds Try.pinned (OpenSpec.upto fnNoiseDrawSpec)

/-- 'laws.FnNoiseDrawMirror', WHERE WHAT IT READS IS OF BULK AT MOST 1048576: true; the input reads as it did. -/
def fnNoiseDrawMirrorUptoRow : OpenClaim := { program := "ytjglikccikeejac", sum := "f7b785be1e89ad6498c7c5d711112f1de1b4406c497027e140913a7d097d0341", func := "loop.example/disclosurecontrol/laws.FnNoiseDrawMirror", spec := "fnNoiseDrawMirror", apart := false, narrowed := true }
def FnNoiseDrawMirrorUptoSaid : Prop := fnNoiseDrawMirrorUptoRow.holds Try.pinned (OpenSpec.upto fnNoiseDrawMirrorSpec)

/-- 'laws.FnNoiseDrawRises', WHERE WHAT IT READS IS OF BULK AT MOST 1048576: true; the input reads as it did. -/
def fnNoiseDrawRisesUptoRow : OpenClaim := { program := "ytjglikccikeejac", sum := "f7b785be1e89ad6498c7c5d711112f1de1b4406c497027e140913a7d097d0341", func := "loop.example/disclosurecontrol/laws.FnNoiseDrawRises", spec := "fnNoiseDrawRises", apart := false, narrowed := true }
def FnNoiseDrawRisesUptoSaid : Prop := fnNoiseDrawRisesUptoRow.holds Try.pinned (OpenSpec.upto fnNoiseDrawRisesSpec)

/-- 'laws.FnNoiseDrawWeight', WHERE WHAT IT READS IS OF BULK AT MOST 1048576: true; the input reads as it did. -/
def fnNoiseDrawWeightUptoRow : OpenClaim := { program := "ytjglikccikeejac", sum := "f7b785be1e89ad6498c7c5d711112f1de1b4406c497027e140913a7d097d0341", func := "loop.example/disclosurecontrol/laws.FnNoiseDrawWeight", spec := "fnNoiseDrawWeight", apart := false, narrowed := true }
def FnNoiseDrawWeightUptoSaid : Prop := fnNoiseDrawWeightUptoRow.holds Try.pinned (OpenSpec.upto fnNoiseDrawWeightSpec)

end Rows
end Go.Proofs.Ytjglikccikeejac
