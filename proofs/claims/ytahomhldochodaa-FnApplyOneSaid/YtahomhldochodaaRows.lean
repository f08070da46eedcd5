/-
  No cell of these rows narrows 'for every input' (looked for: loops, veiled, ifaces, maps, wideKeys, modest, calm, conditions, laid).
  DERIVED. THE GIVEN ROWS OF THIS SEAT. 12 by the template 'for every input the law returns true; each argument reads behind the call as it read before'; 0 by the template 'total and deterministic' (their statements: YtahomhldochodaaTotals.lean).
  GIVEN WITH THE SEED: the statements are not yours to turn. If you find one false, say at which input.
  Laid BY PROGRAM, IN A SANDBOX (cutbox-rows.mjs): the forced cells as the released guide's own fill.sh prints them over the translation f8ac7a1676b8e354… (all of the seat's roots in one cut). By AI agents, Wed Nov 11 2026. No macro, syntax, notation, axiom, sorry.
-/
import Derived.Test.YtahomhldochodaaChecked
import GoSem.Claim
import GoSem.ClaimJoined
import GoSem.ClaimMapViews
import Derived.JoinedTies
import Derived.KernelRfl
namespace Go.Proofs.Ytahomhldochodaa
/- THE CELL 'sum', in the pinned program and in every row, IS THE sha256 OF THE DUMP (.gsa) THAT YtahomhldochodaaProg.lean LOADS. Nothing in Lean hashes anything: it is a label: what it is worth is what the hold of that sum in a sandbox is worth. -/
noncomputable def Try.pinned : Pinned := { name := "ytahomhldochodaa", sum := "f8ac7a1676b8e354b807290dbf71caee089f4ceb7f09352719091cc726dbf908", checked := Try.checked }
namespace Rows
def none {H : Type} : Left H := { results := [], args := [] }

/-- 'laws.FnExactGainJoin': WHATEVER THE INPUT: true; the input reads as it did. -/
def fnExactGainJoinSpec : ChangeSpec := { name := "fnExactGainJoin", fn := fun _ => fun
  | [d1, d2, d3] => { results := [.lit (.bool true)], args := [d1, d2, d3] }
  | _ => none }
def fnExactGainJoinRow : OpenClaim := { program := "ytahomhldochodaa", sum := "f8ac7a1676b8e354b807290dbf71caee089f4ceb7f09352719091cc726dbf908", func := "loop.example/radiointerferometer/laws.FnExactGainJoin", spec := "fnExactGainJoin", apart := false }
def FnExactGainJoinSaid : Prop := fnExactGainJoinRow.holds Try.pinned (OpenSpec.ofChange fnExactGainJoinSpec)

/-- ITS FALSE NEIGHBOUR: 'it returns false'. Refute it at one input. -/
def fnExactGainJoinWrong : ChangeSpec := { name := "fnExactGainJoin", fn := fun _ => fun
  | [d1, d2, d3] => { results := [.lit (.bool false)], args := [d1, d2, d3] }
  | _ => none }
def FnExactGainJoinWrongFalsely : Prop := fnExactGainJoinRow.holds Try.pinned (OpenSpec.ofChange fnExactGainJoinWrong)

/-- 'laws.FnJoin': WHATEVER THE INPUT: true; the input reads as it did. -/
def fnJoinSpec : ChangeSpec := { name := "fnJoin", fn := fun _ => fun
  | [d] => { results := [.lit (.bool true)], args := [d] }
  | _ => none }
def fnJoinRow : OpenClaim := { program := "ytahomhldochodaa", sum := "f8ac7a1676b8e354b807290dbf71caee089f4ceb7f09352719091cc726dbf908", func := "loop.example/radiointerferometer/laws.FnJoin", spec := "fnJoin", apart := false }
def FnJoinSaid : Prop := fnJoinRow.holds Try.pinned (OpenSpec.ofChange fnJoinSpec)

/-- ITS FALSE NEIGHBOUR: 'it returns false'. Refute it at one input. -/
def fnJoinWrong : ChangeSpec := { name := "fnJoin", fn := fun _ => fun
  | [d] => { results := [.lit (.bool false)], args := [d] }
  | _ => none }
def FnJoinWrongFalsely : Prop := fnJoinRow.holds Try.pinned (OpenSpec.ofChange fnJoinWrong)

/-- 'laws.FnJoinThree': WHATEVER THE INPUT: true; the input reads as it did. -/
def fnJoinThreeSpec : ChangeSpec := { name := "fnJoinThree", fn := fun _ => fun
  | [d] => { results := [.lit (.bool true)], args := [d] }
  | _ => none }
def fnJoinThreeRow : OpenClaim := { program := "ytahomhldochodaa", sum := "f8ac7a1676b8e354b807290dbf71caee089f4ceb7f09352719091cc726dbf908", func := "loop.example/radiointerferometer/laws.FnJoinThree", spec := "fnJoinThree", apart := false }
def FnJoinThreeSaid : Prop := fnJoinThreeRow.holds Try.pinned (OpenSpec.ofChange fnJoinThreeSpec)

/-- ITS FALSE NEIGHBOUR: 'it returns false'. Refute it at one input. -/
def fnJoinThreeWrong : ChangeSpec := { name := "fnJoinThree", fn := fun _ => fun
  | [d] => { results := [.lit (.bool false)], args := [d] }
  | _ => none }
def FnJoinThreeWrongFalsely : Prop := fnJoinThreeRow.holds Try.pinned (OpenSpec.ofChange fnJoinThreeWrong)

/-- 'laws.FnExactGainApply': WHATEVER THE INPUT: true; the input reads as it did. -/
def fnExactGainApplySpec : ChangeSpec := { name := "fnExactGainApply", fn := fun _ => fun
  | [d1, d2, d3] => { results := [.lit (.bool true)], args := [d1, d2, d3] }
  | _ => none }
def fnExactGainApplyRow : OpenClaim := { program := "ytahomhldochodaa", sum := "f8ac7a1676b8e354b807290dbf71caee089f4ceb7f09352719091cc726dbf908", func := "loop.example/radiointerferometer/laws.FnExactGainApply", spec := "fnExactGainApply", unfollowed := true, recurses := true, apart := false }
def FnExactGainApplySaid : Prop := fnExactGainApplyRow.holds Try.pinned (OpenSpec.ofChange fnExactGainApplySpec)

/-- ITS FALSE NEIGHBOUR: 'it returns false'. Refute it at one input. -/
def fnExactGainApplyWrong : ChangeSpec := { name := "fnExactGainApply", fn := fun _ => fun
  | [d1, d2, d3] => { results := [.lit (.bool false)], args := [d1, d2, d3] }
  | _ => none }
def FnExactGainApplyWrongFalsely : Prop := fnExactGainApplyRow.holds Try.pinned (OpenSpec.ofChange fnExactGainApplyWrong)

/-- 'laws.FnExactGainRemove': WHATEVER THE INPUT: true; the input reads as it did. -/
def fnExactGainRemoveSpec : ChangeSpec := { name := "fnExactGainRemove", fn := fun _ => fun
  | [d1, d2, d3] => { results := [.lit (.bool true)], args := [d1, d2, d3] }
  | _ => none }
def fnExactGainRemoveRow : OpenClaim := { program := "ytahomhldochodaa", sum := "f8ac7a1676b8e354b807290dbf71caee089f4ceb7f09352719091cc726dbf908", func := "loop.example/radiointerferometer/laws.FnExactGainRemove", spec := "fnExactGainRemove", unfollowed := true, recurses := true, apart := false }
def FnExactGainRemoveSaid : Prop := fnExactGainRemoveRow.holds Try.pinned (OpenSpec.ofChange fnExactGainRemoveSpec)

/-- ITS FALSE NEIGHBOUR: 'it returns false'. Refute it at one input. -/
def fnExactGainRemoveWrong : ChangeSpec := { name := "fnExactGainRemove", fn := fun _ => fun
  | [d1, d2, d3] => { results := [.lit (.bool false)], args := [d1, d2, d3] }
  | _ => none }
def FnExactGainRemoveWrongFalsely : Prop := fnExactGainRemoveRow.holds Try.pinned (OpenSpec.ofChange fnExactGainRemoveWrong)

/-- 'laws.FnApplyTurn': WHATEVER THE INPUT: true; the input reads as it did. -/
def fnApplyTurnSpec : ChangeSpec := { name := "fnApplyTurn", fn := fun _ => fun
  | [d1, d2] => { results := [.lit (.bool true)], args := [d1, d2] }
  | _ => none }
def fnApplyTurnRow : OpenClaim := { program := "ytahomhldochodaa", sum := "f8ac7a1676b8e354b807290dbf71caee089f4ceb7f09352719091cc726dbf908", func := "loop.example/radiointerferometer/laws.FnApplyTurn", spec := "fnApplyTurn", unfollowed := true, recurses := true, apart := false }
def FnApplyTurnSaid : Prop := fnApplyTurnRow.holds Try.pinned (OpenSpec.ofChange fnApplyTurnSpec)

/-- ITS FALSE NEIGHBOUR: 'it returns false'. Refute it at one input. -/
def fnApplyTurnWrong : ChangeSpec := { name := "fnApplyTurn", fn := fun _ => fun
  | [d1, d2] => { results := [.lit (.bool false)], args := [d1, d2] }
  | _ => none }
def FnApplyTurnWrongFalsely : Prop := fnApplyTurnRow.holds Try.pinned (OpenSpec.ofChange fnApplyTurnWrong)

/-- 'laws.FnApplyJoin': WHATEVER THE INPUT: true; the input reads as it did. -/
def fnApplyJoinSpec : ChangeSpec := { name := "fnApplyJoin", fn := fun _ => fun
  | [d1, d2] => { results := [.lit (.bool true)], args := [d1, d2] }
  | _ => none }
def fnApplyJoinRow : OpenClaim := { program := "ytahomhldochodaa", sum := "f8ac7a1676b8e354b807290dbf71caee089f4ceb7f09352719091cc726dbf908", func := "loop.example/radiointerferometer/laws.FnApplyJoin", spec := "fnApplyJoin", unfollowed := true, recurses := true, apart := false }
def FnApplyJoinSaid : Prop := fnApplyJoinRow.holds Try.pinned (OpenSpec.ofChange fnApplyJoinSpec)

/-- ITS FALSE NEIGHBOUR: 'it returns false'. Refute it at one input. -/
def fnApplyJoinWrong : ChangeSpec := { name := "fnApplyJoin", fn := fun _ => fun
  | [d1, d2] => { results := [.lit (.bool false)], args := [d1, d2] }
  | _ => none }
def FnApplyJoinWrongFalsely : Prop := fnApplyJoinRow.holds Try.pinned (OpenSpec.ofChange fnApplyJoinWrong)

/-- 'laws.FnApplyRemove': WHATEVER THE INPUT: true; the input reads as it did. -/
def fnApplyRemoveSpec : ChangeSpec := { name := "fnApplyRemove", fn := fun _ => fun
  | [d] => { results := [.lit (.bool true)], args := [d] }
  | _ => none }
def fnApplyRemoveRow : OpenClaim := { program := "ytahomhldochodaa", sum := "f8ac7a1676b8e354b807290dbf71caee089f4ceb7f09352719091cc726dbf908", func := "loop.example/radiointerferometer/laws.FnApplyRemove", spec := "fnApplyRemove", unfollowed := true, recurses := true, apart := false }
def FnApplyRemoveSaid : Prop := fnApplyRemoveRow.holds Try.pinned (OpenSpec.ofChange fnApplyRemoveSpec)

/-- ITS FALSE NEIGHBOUR: 'it returns false'. Refute it at one input. -/
def fnApplyRemoveWrong : ChangeSpec := { name := "fnApplyRemove", fn := fun _ => fun
  | [d] => { results := [.lit (.bool false)], args := [d] }
  | _ => none }
def FnApplyRemoveWrongFalsely : Prop := fnApplyRemoveRow.holds Try.pinned (OpenSpec.ofChange fnApplyRemoveWrong)

/-- 'laws.FnApplyNone': WHATEVER THE INPUT: true; the input reads as it did. -/
def fnApplyNoneSpec : ChangeSpec := { name := "fnApplyNone", fn := fun _ => fun
  | [d] => { results := [.lit (.bool true)], args := [d] }
  | _ => none }
def fnApplyNoneRow : OpenClaim := { program := "ytahomhldochodaa", sum := "f8ac7a1676b8e354b807290dbf71caee089f4ceb7f09352719091cc726dbf908", func := "loop.example/radiointerferometer/laws.FnApplyNone", spec := "fnApplyNone", unfollowed := true, recurses := true, apart := false }
def FnApplyNoneSaid : Prop := fnApplyNoneRow.holds Try.pinned (OpenSpec.ofChange fnApplyNoneSpec)

/-- ITS FALSE NEIGHBOUR: 'it returns false'. Refute it at one input. -/
def fnApplyNoneWrong : ChangeSpec := { name := "fnApplyNone", fn := fun _ => fun
  | [d] => { results := [.lit (.bool false)], args := [d] }
  | _ => none }
def FnApplyNoneWrongFalsely : Prop := fnApplyNoneRow.holds Try.pinned (OpenSpec.ofChange fnApplyNoneWrong)

/-- 'laws.FnApplyGains': WHATEVER THE INPUT: true; the input reads as it did. -/
def fnApplyGainsSpec : ChangeSpec := { name := "fnApplyGains", fn := fun _ => fun
  | [d1, d2] => { results := [.lit (.bool true)], args := [d1, d2] }
  | _ => none }
def fnApplyGainsRow : OpenClaim := { program := "ytahomhldochodaa", sum := "f8ac7a1676b8e354b807290dbf71caee089f4ceb7f09352719091cc726dbf908", func := "loop.example/radiointerferometer/laws.FnApplyGains", spec := "fnApplyGains", unfollowed := true, recurses := true, apart := false }
def FnApplyGainsSaid : Prop := fnApplyGainsRow.holds Try.pinned (OpenSpec.ofChange fnApplyGainsSpec)

/-- ITS FALSE NEIGHBOUR: 'it returns false'. Refute it at one input. -/
def fnApplyGainsWrong : ChangeSpec := { name := "fnApplyGains", fn := fun _ => fun
  | [d1, d2] => { results := [.lit (.bool false)], args := [d1, d2] }
  | _ => none }
def FnApplyGainsWrongFalsely : Prop := fnApplyGainsRow.holds Try.pinned (OpenSpec.ofChange fnApplyGainsWrong)

/-- 'laws.FnApplyOne': WHATEVER THE INPUT: true; the input reads as it did. -/
def fnApplyOneSpec : ChangeSpec := { name := "fnApplyOne", fn := fun _ => fun
  | [d1, d2] => { results := [.lit (.bool true)], args := [d1, d2] }
  | _ => none }
def fnApplyOneRow : OpenClaim := { program := "ytahomhldochodaa", sum := "f8ac7a1676b8e354b807290dbf71caee089f4ceb7f09352719091cc726dbf908", func := "loop.example/radiointerferometer/laws.FnApplyOne", spec := "fnApplyOne", unfollowed := true, recurses := true, apart := false }
def FnApplyOneSaid : Prop := fnApplyOneRow.holds Try.pinned (OpenSpec.ofChange fnApplyOneSpec)

/-- ITS FALSE NEIGHBOUR: 'it returns false'. Refute it at one input. -/
def fnApplyOneWrong : ChangeSpec := { name := "fnApplyOne", fn := fun _ => fun
  | [d1, d2] => { results := [.lit (.bool false)], args := [d1, d2] }
  | _ => none }
def FnApplyOneWrongFalsely : Prop := fnApplyOneRow.holds Try.pinned (OpenSpec.ofChange fnApplyOneWrong)

/-- 'laws.FnRemoveTwice': WHATEVER THE INPUT: true; the input reads as it did. -/
def fnRemoveTwiceSpec : ChangeSpec := { name := "fnRemoveTwice", fn := fun _ => fun
  | [d1, d2] => { results := [.lit (.bool true)], args := [d1, d2] }
  | _ => none }
def fnRemoveTwiceRow : OpenClaim := { program := "ytahomhldochodaa", sum := "f8ac7a1676b8e354b807290dbf71caee089f4ceb7f09352719091cc726dbf908", func := "loop.example/radiointerferometer/laws.FnRemoveTwice", spec := "fnRemoveTwice", unfollowed := true, recurses := true, apart := false }
def FnRemoveTwiceSaid : Prop := fnRemoveTwiceRow.holds Try.pinned (OpenSpec.ofChange fnRemoveTwiceSpec)

/-- ITS FALSE NEIGHBOUR: 'it returns false'. Refute it at one input. -/
def fnRemoveTwiceWrong : ChangeSpec := { name := "fnRemoveTwice", fn := fun _ => fun
  | [d1, d2] => { results := [.lit (.bool false)], args := [d1, d2] }
  | _ => none }
def FnRemoveTwiceWrongFalsely : Prop := fnRemoveTwiceRow.holds Try.pinned (OpenSpec.ofChange fnRemoveTwiceWrong)

/- THE SECOND FORM. 'bulk': how many values and letters a reading holds, each counted each time it is reached (what is shared counts as often as it is met; a slice's spare places count too). A statement '..UptoSaid' is the law's where the arguments, and the package variables that the reading takes, are together of bulk at most 1048576: NARROWER than '..Said'. Prove '..Said' where nothing that the law and all that it calls make is longer than what came in: it says more and counts as full. Else prove '..UptoSaid'. A law counts once. -/
mutual
def uptoBulk {H : Type} : DataW H → Nat
  | .lit (.string bytes) => bytes.length + 1
  | .lit _ => 1
  | .nil => 1
  | .ptr d => uptoBulk d + 1
  | .slice elems spare => uptoBulkAll elems + uptoBulkAll spare + 1
  | .agg parts => uptoBulkAll parts + 1
  | .iface _ d => uptoBulk d + 1
  | .map entries => uptoBulkEntries entries + 1
  | .held _ => 1
def uptoBulkAll {H : Type} : List (DataW H) → Nat
  | [] => 0
  | d :: r => uptoBulk d + uptoBulkAll r
def uptoBulkEntries {H : Type} : List (Lit × DataW H) → Nat
  | [] => 0
  | x :: r => uptoBulkEntry x + uptoBulkEntries r
def uptoBulkEntry {H : Type} : Lit × DataW H → Nat
  | (.string bytes, d) => bytes.length + uptoBulk d + 1
  | (_, d) => uptoBulk d + 1
 end
def uptoSmall : (H : Type) → List (DataW H) → Bool := fun _ ds => decide (uptoBulkAll ds ≤ 1048576)
def OpenSpec.upto (s : _root_.Go.ChangeSpec) : _root_.Go.OpenSpec := { _root_.Go.OpenSpec.ofChange s with cond := some uptoSmall }

/-- 'laws.FnExactGainJoin', WHERE WHAT IT READS IS OF BULK AT MOST 1048576: true; the input reads as it did. -/
def fnExactGainJoinUptoRow : OpenClaim := { program := "ytahomhldochodaa", sum := "f8ac7a1676b8e354b807290dbf71caee089f4ceb7f09352719091cc726dbf908", func := "loop.example/radiointerferometer/laws.FnExactGainJoin", spec := "fnExactGainJoin", apart := false, narrowed := true }
def FnExactGainJoinUptoSaid : Prop := fnExactGainJoinUptoRow.holds Try.pinned (OpenSpec.upto fnExactGainJoinSpec)

/-- 'laws.FnJoin', WHERE WHAT IT READS IS OF BULK AT MOST 1048576: true; the input reads as it did. -/
def fnJoinUptoRow : OpenClaim := { program := "ytahomhldochodaa", sum := "f8ac7a1676b8e354b807290dbf71caee089f4ceb7f09352719091cc726dbf908", func := "loop.example/radiointerferometer/laws.FnJoin", spec := "fnJoin", apart := false, narrowed := true }
def FnJoinUptoSaid : Prop := fnJoinUptoRow.holds Try.pinned (OpenSpec.upto fnJoinSpec)

/-- 'laws.FnJoinThree', WHERE WHAT IT READS IS OF BULK AT MOST 1048576: true; the input reads as it did. -/
def fnJoinThreeUptoRow : OpenClaim := { program := "ytahomhldochodaa", sum := "f8ac7a1676b8e354b807290dbf71caee089f4ceb7f09352719091cc726dbf908", func := "loop.example/radiointerferometer/laws.FnJoinThree", spec := "fnJoinThree", apart := false, narrowed := true }
def FnJoinThreeUptoSaid : Prop := fnJoinThreeUptoRow.holds Try.pinned (OpenSpec.upto fnJoinThreeSpec)

/-- 'laws.FnExactGainApply', WHERE WHAT IT READS IS OF BULK AT MOST 1048576: true; the input reads as it did. -/
def fnExactGainApplyUptoRow : OpenClaim := { program := "ytahomhldochodaa", sum := "f8ac7a1676b8e354b807290dbf71caee089f4ceb7f09352719091cc726dbf908", func := "loop.example/radiointerferometer/laws.FnExactGainApply", spec := "fnExactGainApply", unfollowed := true, recurses := true, apart := false, narrowed := true }
def FnExactGainApplyUptoSaid : Prop := fnExactGainApplyUptoRow.holds Try.pinned (OpenSpec.upto fnExactGainApplySpec)

/-- 'laws.FnExactGainRemove', WHERE WHAT IT READS IS OF BULK AT MOST 1048576: true; the input reads as it did. -/
def fnExactGainRemoveUptoRow : OpenClaim := { program := "ytahomhldochodaa", sum := "f8ac7a1676b8e354b807290dbf71caee089f4ceb7f09352719091cc726dbf908", func := "loop.example/radiointerferometer/laws.FnExactGainRemove", spec := "fnExactGainRemove", unfollowed := true, recurses := true, apart := false, narrowed := true }
def FnExactGainRemoveUptoSaid : Prop := fnExactGainRemoveUptoRow.holds Try.pinned (OpenSpec.upto fnExactGainRemoveSpec)

/-- 'laws.FnApplyTurn', WHERE WHAT IT READS IS OF BULK AT MOST 1048576: true; the input reads as it did. -/
def fnApplyTurnUptoRow : OpenClaim := { program := "ytahomhldochodaa", sum := "f8ac7a1676b8e354b807290dbf71caee089f4ceb7f09352719091cc726dbf908", func := "loop.example/radiointerferometer/laws.FnApplyTurn", spec := "fnApplyTurn", unfollowed := true, recurses := true, apart := false, narrowed := true }
def FnApplyTurnUptoSaid : Prop := fnApplyTurnUptoRow.holds Try.pinned (OpenSpec.upto fnApplyTurnSpec)

/-- 'laws.FnApplyJoin', WHERE WHAT IT READS IS OF BULK AT MOST 1048576: true; the input reads as it did. -/
def fnApplyJoinUptoRow : OpenClaim := { program := "ytahomhldochodaa", sum := "f8ac7a1676b8e354b807290dbf71caee089f4ceb7f09352719091cc726dbf908", func := "loop.example/radiointerferometer/laws.FnApplyJoin", spec := "fnApplyJoin", unfollowed := true, recurses := true, apart := false, narrowed := true }
def FnApplyJoinUptoSaid : Prop := fnApplyJoinUptoRow.holds Try.pinned (OpenSpec.upto fnApplyJoinSpec)

/-- 'laws.FnApplyRemove', WHERE WHAT IT READS IS OF BULK AT MOST 1048576: true; the input reads as it did. -/
def fnApplyRemoveUptoRow : OpenClaim := { program := "ytahomhldochodaa", sum := "f8ac7a1676b8e354b807290dbf71caee089f4ceb7f09352719091cc726dbf908", func := "loop.example/radiointerferometer/laws.FnApplyRemove", spec := "fnApplyRemove", unfollowed := true, recurses := true, apart := false, narrowed := true }
def FnApplyRemoveUptoSaid : Prop := fnApplyRemoveUptoRow.holds Try.pinned (OpenSpec.upto fnApplyRemoveSpec)

/-- 'laws.FnApplyNone', WHERE WHAT IT READS IS OF BULK AT MOST 1048576: true; the input reads as it did. -/
def fnApplyNoneUptoRow : OpenClaim := { program := "ytahomhldochodaa", sum := "f8ac7a1676b8e354b807290dbf71caee089f4ceb7f09352719091cc726dbf908", func := "loop.example/radiointerferometer/laws.FnApplyNone", spec := "fnApplyNone", unfollowed := true, recurses := true, apart := false, narrowed := true }
def FnApplyNoneUptoSaid : Prop := fnApplyNoneUptoRow.holds Try.pinned (OpenSpec.upto fnApplyNoneSpec)

/-- 'laws.FnApplyGains', WHERE WHAT IT READS IS OF BULK AT MOST 1048576: true; the input reads as it did. -/
def fnApplyGainsUptoRow : OpenClaim := { program := "ytahomhldochodaa", sum := "f8ac7a1676b8e354b807290dbf71caee089f4ceb7f09352719091cc726dbf908", func := "loop.example/radiointerferometer/laws.FnApplyGains", spec := "fnApplyGains", unfollowed := true, recurses := true, apart := false, narrowed := true }
def FnApplyGainsUptoSaid : Prop := fnApplyGainsUptoRow.holds Try.pinned (OpenSpec.upto fnApplyGainsSpec)

/-- 'laws.FnApplyOne', WHERE WHAT IT READS IS OF BULK AT MOST 1048576: true; the input reads as it did. -/
def fnApplyOneUptoRow : OpenClaim := { program := "ytahomhldochodaa", sum := "f8ac7a1676b8e354b807290dbf71caee089f4ceb7f09352719091cc726dbf908", func := "loop.example/radiointerferometer/laws.FnApplyOne", spec := "fnApplyOne", unfollowed := true, recurses := true, apart := false, narrowed := true }
def FnApplyOneUptoSaid : Prop := fnApplyOneUptoRow.holds Try.pinned (OpenSpec.upto fnApplyOneSpec)

/-- 'laws.FnRemoveTwice', WHERE WHAT IT READS IS OF BULK AT MOST 1048576: true; the input reads as it did. -/
def fnRemoveTwiceUptoRow : OpenClaim := { program := "ytahomhldochodaa", sum := "f8ac7a1676b8e354b807290dbf71caee089f4ceb7f09352719091cc726dbf908", func := "loop.example/radiointerferometer/laws.FnRemoveTwice", spec := "fnRemoveTwice", unfollowed := true, recurses := true, apart := false, narrowed := true }
def FnRemoveTwiceUptoSaid : Prop := fnRemoveTwiceUptoRow.holds Try.pinned (OpenSpec.upto fnRemoveTwiceSpec)

end Rows
end Go.Proofs.Ytahomhldochodaa
