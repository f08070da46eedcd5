/-
  No cell of these rows narrows 'for every input' (looked for: loops, veiled, ifaces, maps, wideKeys, modest, calm, conditions, laid).
  DERIVED. THE GIVEN ROWS OF THIS SEAT. 12 by the template 'for every input the law returns true; each argument reads behind the call as it read before'; 0 by the template 'total and deterministic' (their statements: YtfigjmlipffdpaaTotals.lean).
  GIVEN WITH THE SEED: the statements are not yours to turn. If you find one false, say at which input.
  Laid BY PROGRAM, IN A SANDBOX (cutbox-rows.mjs): the forced cells as the released guide's own fill.sh prints them over the translation fa5026b22a47f401… (all of the seat's roots in one cut). By AI agents, Wed Nov 11 2026. No macro, syntax, notation, axiom, sorry.
-/
import Derived.Test.YtfigjmlipffdpaaChecked
import GoSem.Claim
import GoSem.ClaimJoined
import GoSem.ClaimMapViews
import Derived.JoinedTies
import Derived.KernelRfl
namespace Go.Proofs.Ytfigjmlipffdpaa
/- THE CELL 'sum', in the pinned program and in every row, IS THE sha256 OF THE DUMP (.gsa) THAT YtfigjmlipffdpaaProg.lean LOADS. Nothing in Lean hashes anything: it is a label: what it is worth is what the hold of that sum in a sandbox is worth. -/
noncomputable def Try.pinned : Pinned := { name := "ytfigjmlipffdpaa", sum := "fa5026b22a47f401c8901332fc2de30c469452ea3bebd2412507ee7e3a0de5b1", checked := Try.checked }
namespace Rows
def none {H : Type} : Left H := { results := [], args := [] }

/-- 'laws.FnExactSkyValid': WHATEVER THE INPUT: true; the input reads as it did. -/
def fnExactSkyValidSpec : ChangeSpec := { name := "fnExactSkyValid", fn := fun _ => fun
  | [d] => { results := [.lit (.bool true)], args := [d] }
  | _ => none }
def fnExactSkyValidRow : OpenClaim := { program := "ytfigjmlipffdpaa", sum := "fa5026b22a47f401c8901332fc2de30c469452ea3bebd2412507ee7e3a0de5b1", func := "loop.example/radiointerferometer/laws.FnExactSkyValid", spec := "fnExactSkyValid", apart := false }
def FnExactSkyValidSaid : Prop := fnExactSkyValidRow.holds Try.pinned (OpenSpec.ofChange fnExactSkyValidSpec)

/-- ITS FALSE NEIGHBOUR: 'it returns false'. Refute it at one input. -/
def fnExactSkyValidWrong : ChangeSpec := { name := "fnExactSkyValid", fn := fun _ => fun
  | [d] => { results := [.lit (.bool false)], args := [d] }
  | _ => none }
def FnExactSkyValidWrongFalsely : Prop := fnExactSkyValidRow.holds Try.pinned (OpenSpec.ofChange fnExactSkyValidWrong)

/-- 'laws.FnExactSkySum': WHATEVER THE INPUT: true; the input reads as it did. -/
def fnExactSkySumSpec : ChangeSpec := { name := "fnExactSkySum", fn := fun _ => fun
  | [d] => { results := [.lit (.bool true)], args := [d] }
  | _ => none }
def fnExactSkySumRow : OpenClaim := { program := "ytfigjmlipffdpaa", sum := "fa5026b22a47f401c8901332fc2de30c469452ea3bebd2412507ee7e3a0de5b1", func := "loop.example/radiointerferometer/laws.FnExactSkySum", spec := "fnExactSkySum", apart := false }
def FnExactSkySumSaid : Prop := fnExactSkySumRow.holds Try.pinned (OpenSpec.ofChange fnExactSkySumSpec)

/-- ITS FALSE NEIGHBOUR: 'it returns false'. Refute it at one input. -/
def fnExactSkySumWrong : ChangeSpec := { name := "fnExactSkySum", fn := fun _ => fun
  | [d] => { results := [.lit (.bool false)], args := [d] }
  | _ => none }
def FnExactSkySumWrongFalsely : Prop := fnExactSkySumRow.holds Try.pinned (OpenSpec.ofChange fnExactSkySumWrong)

/-- 'laws.FnSky': WHATEVER THE INPUT: true; the input reads as it did. -/
def fnSkySpec : ChangeSpec := { name := "fnSky", fn := fun _ => fun
  | [d1, d2] => { results := [.lit (.bool true)], args := [d1, d2] }
  | _ => none }
def fnSkyRow : OpenClaim := { program := "ytfigjmlipffdpaa", sum := "fa5026b22a47f401c8901332fc2de30c469452ea3bebd2412507ee7e3a0de5b1", func := "loop.example/radiointerferometer/laws.FnSky", spec := "fnSky", apart := false }
def FnSkySaid : Prop := fnSkyRow.holds Try.pinned (OpenSpec.ofChange fnSkySpec)

/-- ITS FALSE NEIGHBOUR: 'it returns false'. Refute it at one input. -/
def fnSkyWrong : ChangeSpec := { name := "fnSky", fn := fun _ => fun
  | [d1, d2] => { results := [.lit (.bool false)], args := [d1, d2] }
  | _ => none }
def FnSkyWrongFalsely : Prop := fnSkyRow.holds Try.pinned (OpenSpec.ofChange fnSkyWrong)

/-- 'laws.FnExactGridValid': WHATEVER THE INPUT: true; the input reads as it did. -/
def fnExactGridValidSpec : ChangeSpec := { name := "fnExactGridValid", fn := fun _ => fun
  | [d] => { results := [.lit (.bool true)], args := [d] }
  | _ => none }
def fnExactGridValidRow : OpenClaim := { program := "ytfigjmlipffdpaa", sum := "fa5026b22a47f401c8901332fc2de30c469452ea3bebd2412507ee7e3a0de5b1", func := "loop.example/radiointerferometer/laws.FnExactGridValid", spec := "fnExactGridValid", apart := false }
def FnExactGridValidSaid : Prop := fnExactGridValidRow.holds Try.pinned (OpenSpec.ofChange fnExactGridValidSpec)

/-- ITS FALSE NEIGHBOUR: 'it returns false'. Refute it at one input. -/
def fnExactGridValidWrong : ChangeSpec := { name := "fnExactGridValid", fn := fun _ => fun
  | [d] => { results := [.lit (.bool false)], args := [d] }
  | _ => none }
def FnExactGridValidWrongFalsely : Prop := fnExactGridValidRow.holds Try.pinned (OpenSpec.ofChange fnExactGridValidWrong)

/-- 'laws.FnExactSkyAdd': WHATEVER THE INPUT: true; the input reads as it did. -/
def fnExactSkyAddSpec : ChangeSpec := { name := "fnExactSkyAdd", fn := fun _ => fun
  | [d1, d2, d3] => { results := [.lit (.bool true)], args := [d1, d2, d3] }
  | _ => none }
def fnExactSkyAddRow : OpenClaim := { program := "ytfigjmlipffdpaa", sum := "fa5026b22a47f401c8901332fc2de30c469452ea3bebd2412507ee7e3a0de5b1", func := "loop.example/radiointerferometer/laws.FnExactSkyAdd", spec := "fnExactSkyAdd", apart := false }
def FnExactSkyAddSaid : Prop := fnExactSkyAddRow.holds Try.pinned (OpenSpec.ofChange fnExactSkyAddSpec)

/-- ITS FALSE NEIGHBOUR: 'it returns false'. Refute it at one input. -/
def fnExactSkyAddWrong : ChangeSpec := { name := "fnExactSkyAdd", fn := fun _ => fun
  | [d1, d2, d3] => { results := [.lit (.bool false)], args := [d1, d2, d3] }
  | _ => none }
def FnExactSkyAddWrongFalsely : Prop := fnExactSkyAddRow.holds Try.pinned (OpenSpec.ofChange fnExactSkyAddWrong)

/-- 'laws.FnExactSkyShift': WHATEVER THE INPUT: true; the input reads as it did. -/
def fnExactSkyShiftSpec : ChangeSpec := { name := "fnExactSkyShift", fn := fun _ => fun
  | [d1, d2, d3] => { results := [.lit (.bool true)], args := [d1, d2, d3] }
  | _ => none }
def fnExactSkyShiftRow : OpenClaim := { program := "ytfigjmlipffdpaa", sum := "fa5026b22a47f401c8901332fc2de30c469452ea3bebd2412507ee7e3a0de5b1", func := "loop.example/radiointerferometer/laws.FnExactSkyShift", spec := "fnExactSkyShift", apart := false }
def FnExactSkyShiftSaid : Prop := fnExactSkyShiftRow.holds Try.pinned (OpenSpec.ofChange fnExactSkyShiftSpec)

/-- ITS FALSE NEIGHBOUR: 'it returns false'. Refute it at one input. -/
def fnExactSkyShiftWrong : ChangeSpec := { name := "fnExactSkyShift", fn := fun _ => fun
  | [d1, d2, d3] => { results := [.lit (.bool false)], args := [d1, d2, d3] }
  | _ => none }
def FnExactSkyShiftWrongFalsely : Prop := fnExactSkyShiftRow.holds Try.pinned (OpenSpec.ofChange fnExactSkyShiftWrong)

/-- 'laws.FnSkySum': WHATEVER THE INPUT: true; the input reads as it did. -/
def fnSkySumSpec : ChangeSpec := { name := "fnSkySum", fn := fun _ => fun
  | [d1, d2] => { results := [.lit (.bool true)], args := [d1, d2] }
  | _ => none }
def fnSkySumRow : OpenClaim := { program := "ytfigjmlipffdpaa", sum := "fa5026b22a47f401c8901332fc2de30c469452ea3bebd2412507ee7e3a0de5b1", func := "loop.example/radiointerferometer/laws.FnSkySum", spec := "fnSkySum", apart := false }
def FnSkySumSaid : Prop := fnSkySumRow.holds Try.pinned (OpenSpec.ofChange fnSkySumSpec)

/-- ITS FALSE NEIGHBOUR: 'it returns false'. Refute it at one input. -/
def fnSkySumWrong : ChangeSpec := { name := "fnSkySum", fn := fun _ => fun
  | [d1, d2] => { results := [.lit (.bool false)], args := [d1, d2] }
  | _ => none }
def FnSkySumWrongFalsely : Prop := fnSkySumRow.holds Try.pinned (OpenSpec.ofChange fnSkySumWrong)

/-- 'laws.FnSkyShiftTwice': WHATEVER THE INPUT: true; the input reads as it did. -/
def fnSkyShiftTwiceSpec : ChangeSpec := { name := "fnSkyShiftTwice", fn := fun _ => fun
  | [d1, d2] => { results := [.lit (.bool true)], args := [d1, d2] }
  | _ => none }
def fnSkyShiftTwiceRow : OpenClaim := { program := "ytfigjmlipffdpaa", sum := "fa5026b22a47f401c8901332fc2de30c469452ea3bebd2412507ee7e3a0de5b1", func := "loop.example/radiointerferometer/laws.FnSkyShiftTwice", spec := "fnSkyShiftTwice", apart := false }
def FnSkyShiftTwiceSaid : Prop := fnSkyShiftTwiceRow.holds Try.pinned (OpenSpec.ofChange fnSkyShiftTwiceSpec)

/-- ITS FALSE NEIGHBOUR: 'it returns false'. Refute it at one input. -/
def fnSkyShiftTwiceWrong : ChangeSpec := { name := "fnSkyShiftTwice", fn := fun _ => fun
  | [d1, d2] => { results := [.lit (.bool false)], args := [d1, d2] }
  | _ => none }
def FnSkyShiftTwiceWrongFalsely : Prop := fnSkyShiftTwiceRow.holds Try.pinned (OpenSpec.ofChange fnSkyShiftTwiceWrong)

/-- 'laws.FnSkyAdd': WHATEVER THE INPUT: true; the input reads as it did. -/
def fnSkyAddSpec : ChangeSpec := { name := "fnSkyAdd", fn := fun _ => fun
  | [d] => { results := [.lit (.bool true)], args := [d] }
  | _ => none }
def fnSkyAddRow : OpenClaim := { program := "ytfigjmlipffdpaa", sum := "fa5026b22a47f401c8901332fc2de30c469452ea3bebd2412507ee7e3a0de5b1", func := "loop.example/radiointerferometer/laws.FnSkyAdd", spec := "fnSkyAdd", apart := false }
def FnSkyAddSaid : Prop := fnSkyAddRow.holds Try.pinned (OpenSpec.ofChange fnSkyAddSpec)

/-- ITS FALSE NEIGHBOUR: 'it returns false'. Refute it at one input. -/
def fnSkyAddWrong : ChangeSpec := { name := "fnSkyAdd", fn := fun _ => fun
  | [d] => { results := [.lit (.bool false)], args := [d] }
  | _ => none }
def FnSkyAddWrongFalsely : Prop := fnSkyAddRow.holds Try.pinned (OpenSpec.ofChange fnSkyAddWrong)

/-- 'laws.FnExactSkyFold': WHATEVER THE INPUT: true; the input reads as it did. -/
def fnExactSkyFoldSpec : ChangeSpec := { name := "fnExactSkyFold", fn := fun _ => fun
  | [d1, d2] => { results := [.lit (.bool true)], args := [d1, d2] }
  | _ => none }
def fnExactSkyFoldRow : OpenClaim := { program := "ytfigjmlipffdpaa", sum := "fa5026b22a47f401c8901332fc2de30c469452ea3bebd2412507ee7e3a0de5b1", func := "loop.example/radiointerferometer/laws.FnExactSkyFold", spec := "fnExactSkyFold", apart := false }
def FnExactSkyFoldSaid : Prop := fnExactSkyFoldRow.holds Try.pinned (OpenSpec.ofChange fnExactSkyFoldSpec)

/-- ITS FALSE NEIGHBOUR: 'it returns false'. Refute it at one input. -/
def fnExactSkyFoldWrong : ChangeSpec := { name := "fnExactSkyFold", fn := fun _ => fun
  | [d1, d2] => { results := [.lit (.bool false)], args := [d1, d2] }
  | _ => none }
def FnExactSkyFoldWrongFalsely : Prop := fnExactSkyFoldRow.holds Try.pinned (OpenSpec.ofChange fnExactSkyFoldWrong)

/-- 'laws.FnSkyShiftCell': WHATEVER THE INPUT: true; the input reads as it did. -/
def fnSkyShiftCellSpec : ChangeSpec := { name := "fnSkyShiftCell", fn := fun _ => fun
  | [d] => { results := [.lit (.bool true)], args := [d] }
  | _ => none }
def fnSkyShiftCellRow : OpenClaim := { program := "ytfigjmlipffdpaa", sum := "fa5026b22a47f401c8901332fc2de30c469452ea3bebd2412507ee7e3a0de5b1", func := "loop.example/radiointerferometer/laws.FnSkyShiftCell", spec := "fnSkyShiftCell", apart := false }
def FnSkyShiftCellSaid : Prop := fnSkyShiftCellRow.holds Try.pinned (OpenSpec.ofChange fnSkyShiftCellSpec)

/-- ITS FALSE NEIGHBOUR: 'it returns false'. Refute it at one input. -/
def fnSkyShiftCellWrong : ChangeSpec := { name := "fnSkyShiftCell", fn := fun _ => fun
  | [d] => { results := [.lit (.bool false)], args := [d] }
  | _ => none }
def FnSkyShiftCellWrongFalsely : Prop := fnSkyShiftCellRow.holds Try.pinned (OpenSpec.ofChange fnSkyShiftCellWrong)

/-- 'laws.FnSkyShift': WHATEVER THE INPUT: true; the input reads as it did. -/
def fnSkyShiftSpec : ChangeSpec := { name := "fnSkyShift", fn := fun _ => fun
  | [d] => { results := [.lit (.bool true)], args := [d] }
  | _ => none }
def fnSkyShiftRow : OpenClaim := { program := "ytfigjmlipffdpaa", sum := "fa5026b22a47f401c8901332fc2de30c469452ea3bebd2412507ee7e3a0de5b1", func := "loop.example/radiointerferometer/laws.FnSkyShift", spec := "fnSkyShift", apart := false }
def FnSkyShiftSaid : Prop := fnSkyShiftRow.holds Try.pinned (OpenSpec.ofChange fnSkyShiftSpec)

/-- ITS FALSE NEIGHBOUR: 'it returns false'. Refute it at one input. -/
def fnSkyShiftWrong : ChangeSpec := { name := "fnSkyShift", fn := fun _ => fun
  | [d] => { results := [.lit (.bool false)], args := [d] }
  | _ => none }
def FnSkyShiftWrongFalsely : Prop := fnSkyShiftRow.holds Try.pinned (OpenSpec.ofChange fnSkyShiftWrong)

/- THE SECOND FORM. 'bulk': how many values and letters a reading holds, each counted each time it is reached (what is shared counts as often as it is met; a slice's spare places count too). A statement '..UptoSaid' is the law's where the arguments, and the package variables that the reading takes, are together of bulk at most 1048576: NARROWER than '..Said'. Prove '..Said' where nothing that the law and all that it calls make is longer than what came in: it says more and counts as full. Else prove '..UptoSaid'. A law counts once. -/
mutual
def uptoBulk {H : Type} : DataW H → Nat
  | .lit (.string bytes) => bytes.length + 1
  | .lit _ => 1
  | .nil => 1
  | .ptr d => uptoBulk d + 1
  | .slice elems spare => uptoBulkAll elems + uptoBulkAll spare + 1
  | .agg parts => uptoBulkAll parts + 1
  | .iface _ d => uptoBulk d + 1
  | .map entries => uptoBulkEntries entries + 1
  | .held _ => 1
def uptoBulkAll {H : Type} : List (DataW H) → Nat
  | [] => 0
  | d :: r => uptoBulk d + uptoBulkAll r
def uptoBulkEntries {H : Type} : List (Lit × DataW H) → Nat
  | [] => 0
  | x :: r => uptoBulkEntry x + uptoBulkEntries r
def uptoBulkEntry {H : Type} : Lit × DataW H → Nat
  | (.string bytes, d) => bytes.length + uptoBulk d + 1
  | (_, d) => uptoBulk d + 1
 end
def uptoSmall : (H : Type) → List (DataW H) → Bool := fun _ ds => decide (uptoBulkAll ds ≤ 1048576)
def OpenSpec.upto (s : _root_.Go.ChangeSpec) : _root_.Go.OpenSpec := { _root_.Go.OpenSpec.ofChange s with cond := some uptoSmall }

/-- 'laws.FnExactSkyValid', WHERE WHAT IT READS IS OF BULK AT MOST 1048576: true; the input reads as it did. -/
def fnExactSkyValidUptoRow : OpenClaim := { program := "ytfigjmlipffdpaa", sum := "fa5026b22a47f401c8901332fc2de30c469452ea3bebd2412507ee7e3a0de5b1", func := "loop.example/radiointerferometer/laws.FnExactSkyValid", spec := "fnExactSkyValid", apart := false, narrowed := true }
def FnExactSkyValidUptoSaid : Prop := fnExactSkyValidUptoRow.holds Try.pinned (OpenSpec.upto fnExactSkyValidSpec)

/-- 'laws.FnExactSkySum', WHERE WHAT IT READS IS OF BULK AT MOST 1048576: true; the input reads as it did. -/
def fnExactSkySumUptoRow : OpenClaim := { program := "ytfigjmlipffdpaa", sum := "fa5026b22a47f401c8901332fc2de30c469452ea3bebd2412507ee7e3a0de5b1", func := "loop.example/radiointerferometer/laws.FnExactSkySum", spec := "fnExactSkySum", apart := false, narrowed := true }
def FnExactSkySumUptoSaid : Prop := fnExactSkySumUptoRow.holds Try.pinned (OpenSpec.upto fnExactSkySumSpec)

/-- 'laws.FnSky', WHERE WHAT IT READS IS OF BULK AT MOST 1048576: true; the input reads as it did. -/
def fnSkyUptoRow : OpenClaim := { program := "ytfigjmlipffdpaa", sum := "fa5026b22a47f401c8901332fc2de30c469452ea3bebd2412507ee7e3a0de5b1", func := "loop.example/radiointerferometer/laws.FnSky", spec := "fnSky", apart := false, narrowed := true }
def FnSkyUptoSaid : Prop := fnSkyUptoRow.holds Try.pinned (OpenSpec.upto fnSkySpec)

/-- 'laws.FnExactGridValid', WHERE WHAT IT READS IS OF BULK AT MOST 1048576: true; the input reads as it did. -/
def fnExactGridValidUptoRow : OpenClaim := { program := "ytfigjmlipffdpaa", sum := "fa5026b22a47f401c8901332fc2de30c469452ea3bebd2412507ee7e3a0de5b1", func := "loop.example/radiointerferometer/laws.FnExactGridValid", spec := "fnExactGridValid", apart := false, narrowed := true }
def FnExactGridValidUptoSaid : Prop := fnExactGridValidUptoRow.holds Try.pinned (OpenSpec.upto fnExactGridValidSpec)

/-- 'laws.FnExactSkyAdd', WHERE WHAT IT READS IS OF BULK AT MOST 1048576: true; the input reads as it did. -/
def fnExactSkyAddUptoRow : OpenClaim := { program := "ytfigjmlipffdpaa", sum := "fa5026b22a47f401c8901332fc2de30c469452ea3bebd2412507ee7e3a0de5b1", func := "loop.example/radiointerferometer/laws.FnExactSkyAdd", spec := "fnExactSkyAdd", apart := false, narrowed := true }
def FnExactSkyAddUptoSaid : Prop := fnExactSkyAddUptoRow.holds Try.pinned (OpenSpec.upto fnExactSkyAddSpec)

/-- 'laws.FnExactSkyShift', WHERE WHAT IT READS IS OF BULK AT MOST 1048576: true; the input reads as it did. -/
def fnExactSkyShiftUptoRow : OpenClaim := { program := "ytfigjmlipffdpaa", sum := "fa5026b22a47f401c8901332fc2de30c469452ea3bebd2412507ee7e3a0de5b1", func := "loop.example/radiointerferometer/laws.FnExactSkyShift", spec := "fnExactSkyShift", apart := false, narrowed := true }
def FnExactSkyShiftUptoSaid : Prop := fnExactSkyShiftUptoRow.holds Try.pinned (OpenSpec.upto fnExactSkyShiftSpec)

/-- 'laws.FnSkySum', WHERE WHAT IT READS IS OF BULK AT MOST 1048576: true; the input reads as it did. -/
def fnSkySumUptoRow : OpenClaim := { program := "ytfigjmlipffdpaa", sum := "fa5026b22a47f401c8901332fc2de30c469452ea3bebd2412507ee7e3a0de5b1", func := "loop.example/radiointerferometer/laws.FnSkySum", spec := "fnSkySum", apart := false, narrowed := true }
def FnSkySumUptoSaid : Prop := fnSkySumUptoRow.holds Try.pinned (OpenSpec.upto fnSkySumSpec)

/-- 'laws.FnSkyShiftTwice', WHERE WHAT IT READS IS OF BULK AT MOST 1048576: true; the input reads as it did. -/
def fnSkyShiftTwiceUptoRow : OpenClaim := { program := "ytfigjmlipffdpaa", sum := "fa5026b22a47f401c8901332fc2de30c469452ea3bebd2412507ee7e3a0de5b1", func := "loop.example/radiointerferometer/laws.FnSkyShiftTwice", spec := "fnSkyShiftTwice", apart := false, narrowed := true }
def FnSkyShiftTwiceUptoSaid : Prop := fnSkyShiftTwiceUptoRow.holds Try.pinned (OpenSpec.upto fnSkyShiftTwiceSpec)

/-- 'laws.FnSkyAdd', WHERE WHAT IT READS IS OF BULK AT MOST 1048576: true; the input reads as it did. -/
def fnSkyAddUptoRow : OpenClaim := { program := "ytfigjmlipffdpaa", sum := "fa5026b22a47f401c8901332fc2de30c469452ea3bebd2412507ee7e3a0de5b1", func := "loop.example/radiointerferometer/laws.FnSkyAdd", spec := "fnSkyAdd", apart := false, narrowed := true }
def FnSkyAddUptoSaid : Prop := fnSkyAddUptoRow.holds Try.pinned (OpenSpec.upto fnSkyAddSpec)

/-- 'laws.FnExactSkyFold', WHERE WHAT IT READS IS OF BULK AT MOST 1048576: true; the input reads as it did. -/
def fnExactSkyFoldUptoRow : OpenClaim := { program := "ytfigjmlipffdpaa", sum := "fa5026b22a47f401c8901332fc2de30c469452ea3bebd2412507ee7e3a0de5b1", func := "loop.example/radiointerferometer/laws.FnExactSkyFold", spec := "fnExactSkyFold", apart := false, narrowed := true }
def FnExactSkyFoldUptoSaid : Prop := fnExactSkyFoldUptoRow.holds Try.pinned (OpenSpec.upto fnExactSkyFoldSpec)

/-- 'laws.FnSkyShiftCell', WHERE WHAT IT READS IS OF BULK AT MOST 1048576: true; the input reads as it did. -/
def fnSkyShiftCellUptoRow : OpenClaim := { program := "ytfigjmlipffdpaa", sum := "fa5026b22a47f401c8901332fc2de30c469452ea3bebd2412507ee7e3a0de5b1", func := "loop.example/radiointerferometer/laws.FnSkyShiftCell", spec := "fnSkyShiftCell", apart := false, narrowed := true }
def FnSkyShiftCellUptoSaid : Prop := fnSkyShiftCellUptoRow.holds Try.pinned (OpenSpec.upto fnSkyShiftCellSpec)

/-- 'laws.FnSkyShift', WHERE WHAT IT READS IS OF BULK AT MOST 1048576: true; the input reads as it did. -/
def fnSkyShiftUptoRow : OpenClaim := { program := "ytfigjmlipffdpaa", sum := "fa5026b22a47f401c8901332fc2de30c469452ea3bebd2412507ee7e3a0de5b1", func := "loop.example/radiointerferometer/laws.FnSkyShift", spec := "fnSkyShift", apart := false, narrowed := true }
def FnSkyShiftUptoSaid : Prop := fnSkyShiftUptoRow.holds Try.pinned (OpenSpec.upto fnSkyShiftSpec)

end Rows
end Go.Proofs.Ytfigjmlipffdpaa
