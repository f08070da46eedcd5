/-
  No cell of these rows narrows 'for every input' (looked for: loops, veiled, ifaces, maps, wideKeys, modest, calm, conditions, laid).
  DERIVED. THE GIVEN ROWS OF THIS SEAT. 12 by the template 'for every input the law returns true; each argument reads behind the call as it read before'; 0 by the template 'total and deterministic' (their statements: YtopneihamefohaaTotals.lean).
  GIVEN WITH THE SEED: the statements are not yours to turn. If you find one false, say at which input.
  Laid BY PROGRAM, IN A SANDBOX (cutbox-rows.mjs): the forced cells as the released guide's own fill.sh prints them over the translation baabd68b6c179cbb… (all of the seat's roots in one cut). By AI agents, Wed Nov 11 2026. No macro, syntax, notation, axiom, sorry.
-/
import Derived.Test.YtopneihamefohaaChecked
import GoSem.Claim
import GoSem.ClaimJoined
import GoSem.ClaimMapViews
import Derived.JoinedTies
import Derived.KernelRfl
namespace Go.Proofs.Ytopneihamefohaa
/- THE CELL 'sum', in the pinned program and in every row, IS THE sha256 OF THE DUMP (.gsa) THAT YtopneihamefohaaProg.lean LOADS. Nothing in Lean hashes anything: it is a label: what it is worth is what the hold of that sum in a sandbox is worth. -/
noncomputable def Try.pinned : Pinned := { name := "ytopneihamefohaa", sum := "baabd68b6c179cbb6c2a5a6a47d34eba56ef44e48cd2718488297d8c984d20d6", checked := Try.checked }
namespace Rows
def none {H : Type} : Left H := { results := [], args := [] }

/-- 'laws.FnExactCloseMany': WHATEVER THE INPUT: true; the input reads as it did. -/
def fnExactCloseManySpec : ChangeSpec := { name := "fnExactCloseMany", fn := fun _ => fun
  | [d] => { results := [.lit (.bool true)], args := [d] }
  | _ => none }
def fnExactCloseManyRow : OpenClaim := { program := "ytopneihamefohaa", sum := "baabd68b6c179cbb6c2a5a6a47d34eba56ef44e48cd2718488297d8c984d20d6", func := "loop.example/radiointerferometer/laws.FnExactCloseMany", spec := "fnExactCloseMany", apart := false }
def FnExactCloseManySaid : Prop := fnExactCloseManyRow.holds Try.pinned (OpenSpec.ofChange fnExactCloseManySpec)

/-- ITS FALSE NEIGHBOUR: 'it returns false'. Refute it at one input. -/
def fnExactCloseManyWrong : ChangeSpec := { name := "fnExactCloseMany", fn := fun _ => fun
  | [d] => { results := [.lit (.bool false)], args := [d] }
  | _ => none }
def FnExactCloseManyWrongFalsely : Prop := fnExactCloseManyRow.holds Try.pinned (OpenSpec.ofChange fnExactCloseManyWrong)

/-- 'laws.FnCloseMany': WHATEVER THE INPUT: true; the input reads as it did. -/
def fnCloseManySpec : ChangeSpec := { name := "fnCloseMany", fn := fun _ => fun
  | [d] => { results := [.lit (.bool true)], args := [d] }
  | _ => none }
def fnCloseManyRow : OpenClaim := { program := "ytopneihamefohaa", sum := "baabd68b6c179cbb6c2a5a6a47d34eba56ef44e48cd2718488297d8c984d20d6", func := "loop.example/radiointerferometer/laws.FnCloseMany", spec := "fnCloseMany", apart := false }
def FnCloseManySaid : Prop := fnCloseManyRow.holds Try.pinned (OpenSpec.ofChange fnCloseManySpec)

/-- ITS FALSE NEIGHBOUR: 'it returns false'. Refute it at one input. -/
def fnCloseManyWrong : ChangeSpec := { name := "fnCloseMany", fn := fun _ => fun
  | [d] => { results := [.lit (.bool false)], args := [d] }
  | _ => none }
def FnCloseManyWrongFalsely : Prop := fnCloseManyRow.holds Try.pinned (OpenSpec.ofChange fnCloseManyWrong)

/-- 'laws.FnExactFlagLinked': WHATEVER THE INPUT: true; the input reads as it did. -/
def fnExactFlagLinkedSpec : ChangeSpec := { name := "fnExactFlagLinked", fn := fun _ => fun
  | [d1, d2] => { results := [.lit (.bool true)], args := [d1, d2] }
  | _ => none }
def fnExactFlagLinkedRow : OpenClaim := { program := "ytopneihamefohaa", sum := "baabd68b6c179cbb6c2a5a6a47d34eba56ef44e48cd2718488297d8c984d20d6", func := "loop.example/radiointerferometer/laws.FnExactFlagLinked", spec := "fnExactFlagLinked", unfollowed := true, recurses := true, apart := false }
def FnExactFlagLinkedSaid : Prop := fnExactFlagLinkedRow.holds Try.pinned (OpenSpec.ofChange fnExactFlagLinkedSpec)

/-- ITS FALSE NEIGHBOUR: 'it returns false'. Refute it at one input. -/
def fnExactFlagLinkedWrong : ChangeSpec := { name := "fnExactFlagLinked", fn := fun _ => fun
  | [d1, d2] => { results := [.lit (.bool false)], args := [d1, d2] }
  | _ => none }
def FnExactFlagLinkedWrongFalsely : Prop := fnExactFlagLinkedRow.holds Try.pinned (OpenSpec.ofChange fnExactFlagLinkedWrong)

/-- 'laws.FnLinkedLess': WHATEVER THE INPUT: true; the input reads as it did. -/
def fnLinkedLessSpec : ChangeSpec := { name := "fnLinkedLess", fn := fun _ => fun
  | [d1, d2] => { results := [.lit (.bool true)], args := [d1, d2] }
  | _ => none }
def fnLinkedLessRow : OpenClaim := { program := "ytopneihamefohaa", sum := "baabd68b6c179cbb6c2a5a6a47d34eba56ef44e48cd2718488297d8c984d20d6", func := "loop.example/radiointerferometer/laws.FnLinkedLess", spec := "fnLinkedLess", unfollowed := true, recurses := true, apart := false }
def FnLinkedLessSaid : Prop := fnLinkedLessRow.holds Try.pinned (OpenSpec.ofChange fnLinkedLessSpec)

/-- ITS FALSE NEIGHBOUR: 'it returns false'. Refute it at one input. -/
def fnLinkedLessWrong : ChangeSpec := { name := "fnLinkedLess", fn := fun _ => fun
  | [d1, d2] => { results := [.lit (.bool false)], args := [d1, d2] }
  | _ => none }
def FnLinkedLessWrongFalsely : Prop := fnLinkedLessRow.holds Try.pinned (OpenSpec.ofChange fnLinkedLessWrong)

/-- 'laws.FnExactFlagLoops': WHATEVER THE INPUT: true; the input reads as it did. -/
def fnExactFlagLoopsSpec : ChangeSpec := { name := "fnExactFlagLoops", fn := fun _ => fun
  | [d1, d2] => { results := [.lit (.bool true)], args := [d1, d2] }
  | _ => none }
def fnExactFlagLoopsRow : OpenClaim := { program := "ytopneihamefohaa", sum := "baabd68b6c179cbb6c2a5a6a47d34eba56ef44e48cd2718488297d8c984d20d6", func := "loop.example/radiointerferometer/laws.FnExactFlagLoops", spec := "fnExactFlagLoops", unfollowed := true, recurses := true, apart := false }
def FnExactFlagLoopsSaid : Prop := fnExactFlagLoopsRow.holds Try.pinned (OpenSpec.ofChange fnExactFlagLoopsSpec)

/-- ITS FALSE NEIGHBOUR: 'it returns false'. Refute it at one input. -/
def fnExactFlagLoopsWrong : ChangeSpec := { name := "fnExactFlagLoops", fn := fun _ => fun
  | [d1, d2] => { results := [.lit (.bool false)], args := [d1, d2] }
  | _ => none }
def FnExactFlagLoopsWrongFalsely : Prop := fnExactFlagLoopsRow.holds Try.pinned (OpenSpec.ofChange fnExactFlagLoopsWrong)

/-- 'laws.FnLinked': WHATEVER THE INPUT: true; the input reads as it did. -/
def fnLinkedSpec : ChangeSpec := { name := "fnLinked", fn := fun _ => fun
  | [d] => { results := [.lit (.bool true)], args := [d] }
  | _ => none }
def fnLinkedRow : OpenClaim := { program := "ytopneihamefohaa", sum := "baabd68b6c179cbb6c2a5a6a47d34eba56ef44e48cd2718488297d8c984d20d6", func := "loop.example/radiointerferometer/laws.FnLinked", spec := "fnLinked", unfollowed := true, recurses := true, apart := false }
def FnLinkedSaid : Prop := fnLinkedRow.holds Try.pinned (OpenSpec.ofChange fnLinkedSpec)

/-- ITS FALSE NEIGHBOUR: 'it returns false'. Refute it at one input. -/
def fnLinkedWrong : ChangeSpec := { name := "fnLinked", fn := fun _ => fun
  | [d] => { results := [.lit (.bool false)], args := [d] }
  | _ => none }
def FnLinkedWrongFalsely : Prop := fnLinkedRow.holds Try.pinned (OpenSpec.ofChange fnLinkedWrong)

/-- 'laws.FnExactVisGet': WHATEVER THE INPUT: true; the input reads as it did. -/
def fnExactVisGetSpec : ChangeSpec := { name := "fnExactVisGet", fn := fun _ => fun
  | [d1, d2, d3, d4] => { results := [.lit (.bool true)], args := [d1, d2, d3, d4] }
  | _ => none }
def fnExactVisGetRow : OpenClaim := { program := "ytopneihamefohaa", sum := "baabd68b6c179cbb6c2a5a6a47d34eba56ef44e48cd2718488297d8c984d20d6", func := "loop.example/radiointerferometer/laws.FnExactVisGet", spec := "fnExactVisGet", apart := false }
def FnExactVisGetSaid : Prop := fnExactVisGetRow.holds Try.pinned (OpenSpec.ofChange fnExactVisGetSpec)

/-- ITS FALSE NEIGHBOUR: 'it returns false'. Refute it at one input. -/
def fnExactVisGetWrong : ChangeSpec := { name := "fnExactVisGet", fn := fun _ => fun
  | [d1, d2, d3, d4] => { results := [.lit (.bool false)], args := [d1, d2, d3, d4] }
  | _ => none }
def FnExactVisGetWrongFalsely : Prop := fnExactVisGetRow.holds Try.pinned (OpenSpec.ofChange fnExactVisGetWrong)

/-- 'laws.FnVisGet': WHATEVER THE INPUT: true; the input reads as it did. -/
def fnVisGetSpec : ChangeSpec := { name := "fnVisGet", fn := fun _ => fun
  | [d] => { results := [.lit (.bool true)], args := [d] }
  | _ => none }
def fnVisGetRow : OpenClaim := { program := "ytopneihamefohaa", sum := "baabd68b6c179cbb6c2a5a6a47d34eba56ef44e48cd2718488297d8c984d20d6", func := "loop.example/radiointerferometer/laws.FnVisGet", spec := "fnVisGet", apart := false }
def FnVisGetSaid : Prop := fnVisGetRow.holds Try.pinned (OpenSpec.ofChange fnVisGetSpec)

/-- ITS FALSE NEIGHBOUR: 'it returns false'. Refute it at one input. -/
def fnVisGetWrong : ChangeSpec := { name := "fnVisGet", fn := fun _ => fun
  | [d] => { results := [.lit (.bool false)], args := [d] }
  | _ => none }
def FnVisGetWrongFalsely : Prop := fnVisGetRow.holds Try.pinned (OpenSpec.ofChange fnVisGetWrong)

/-- 'laws.FnLoopsGroups': WHATEVER THE INPUT: true; the input reads as it did. -/
def fnLoopsGroupsSpec : ChangeSpec := { name := "fnLoopsGroups", fn := fun _ => fun
  | [d] => { results := [.lit (.bool true)], args := [d] }
  | _ => none }
def fnLoopsGroupsRow : OpenClaim := { program := "ytopneihamefohaa", sum := "baabd68b6c179cbb6c2a5a6a47d34eba56ef44e48cd2718488297d8c984d20d6", func := "loop.example/radiointerferometer/laws.FnLoopsGroups", spec := "fnLoopsGroups", unfollowed := true, recurses := true, apart := false }
def FnLoopsGroupsSaid : Prop := fnLoopsGroupsRow.holds Try.pinned (OpenSpec.ofChange fnLoopsGroupsSpec)

/-- ITS FALSE NEIGHBOUR: 'it returns false'. Refute it at one input. -/
def fnLoopsGroupsWrong : ChangeSpec := { name := "fnLoopsGroups", fn := fun _ => fun
  | [d] => { results := [.lit (.bool false)], args := [d] }
  | _ => none }
def FnLoopsGroupsWrongFalsely : Prop := fnLoopsGroupsRow.holds Try.pinned (OpenSpec.ofChange fnLoopsGroupsWrong)

/-- 'laws.FnVisGetList': WHATEVER THE INPUT: true; the input reads as it did. -/
def fnVisGetListSpec : ChangeSpec := { name := "fnVisGetList", fn := fun _ => fun
  | [d] => { results := [.lit (.bool true)], args := [d] }
  | _ => none }
def fnVisGetListRow : OpenClaim := { program := "ytopneihamefohaa", sum := "baabd68b6c179cbb6c2a5a6a47d34eba56ef44e48cd2718488297d8c984d20d6", func := "loop.example/radiointerferometer/laws.FnVisGetList", spec := "fnVisGetList", apart := false }
def FnVisGetListSaid : Prop := fnVisGetListRow.holds Try.pinned (OpenSpec.ofChange fnVisGetListSpec)

/-- ITS FALSE NEIGHBOUR: 'it returns false'. Refute it at one input. -/
def fnVisGetListWrong : ChangeSpec := { name := "fnVisGetList", fn := fun _ => fun
  | [d] => { results := [.lit (.bool false)], args := [d] }
  | _ => none }
def FnVisGetListWrongFalsely : Prop := fnVisGetListRow.holds Try.pinned (OpenSpec.ofChange fnVisGetListWrong)

/-- 'laws.FnLoops': WHATEVER THE INPUT: true; the input reads as it did. -/
def fnLoopsSpec : ChangeSpec := { name := "fnLoops", fn := fun _ => fun
  | [d1, d2] => { results := [.lit (.bool true)], args := [d1, d2] }
  | _ => none }
def fnLoopsRow : OpenClaim := { program := "ytopneihamefohaa", sum := "baabd68b6c179cbb6c2a5a6a47d34eba56ef44e48cd2718488297d8c984d20d6", func := "loop.example/radiointerferometer/laws.FnLoops", spec := "fnLoops", unfollowed := true, recurses := true, apart := false }
def FnLoopsSaid : Prop := fnLoopsRow.holds Try.pinned (OpenSpec.ofChange fnLoopsSpec)

/-- ITS FALSE NEIGHBOUR: 'it returns false'. Refute it at one input. -/
def fnLoopsWrong : ChangeSpec := { name := "fnLoops", fn := fun _ => fun
  | [d1, d2] => { results := [.lit (.bool false)], args := [d1, d2] }
  | _ => none }
def FnLoopsWrongFalsely : Prop := fnLoopsRow.holds Try.pinned (OpenSpec.ofChange fnLoopsWrong)

/-- 'laws.FnExactCloseVis': WHATEVER THE INPUT: true; the input reads as it did. -/
def fnExactCloseVisSpec : ChangeSpec := { name := "fnExactCloseVis", fn := fun _ => fun
  | [d1, d2] => { results := [.lit (.bool true)], args := [d1, d2] }
  | _ => none }
def fnExactCloseVisRow : OpenClaim := { program := "ytopneihamefohaa", sum := "baabd68b6c179cbb6c2a5a6a47d34eba56ef44e48cd2718488297d8c984d20d6", func := "loop.example/radiointerferometer/laws.FnExactCloseVis", spec := "fnExactCloseVis", unfollowed := true, recurses := true, apart := false }
def FnExactCloseVisSaid : Prop := fnExactCloseVisRow.holds Try.pinned (OpenSpec.ofChange fnExactCloseVisSpec)

/-- ITS FALSE NEIGHBOUR: 'it returns false'. Refute it at one input. -/
def fnExactCloseVisWrong : ChangeSpec := { name := "fnExactCloseVis", fn := fun _ => fun
  | [d1, d2] => { results := [.lit (.bool false)], args := [d1, d2] }
  | _ => none }
def FnExactCloseVisWrongFalsely : Prop := fnExactCloseVisRow.holds Try.pinned (OpenSpec.ofChange fnExactCloseVisWrong)

/- THE SECOND FORM. 'bulk': how many values and letters a reading holds, each counted each time it is reached (what is shared counts as often as it is met; a slice's spare places count too). A statement '..UptoSaid' is the law's where the arguments, and the package variables that the reading takes, are together of bulk at most 1048576: NARROWER than '..Said'. Prove '..Said' where nothing that the law and all that it calls make is longer than what came in: it says more and counts as full. Else prove '..UptoSaid'. A law counts once. -/
mutual
def uptoBulk {H : Type} : DataW H → Nat
  | .lit (.string bytes) => bytes.length + 1
  | .lit _ => 1
  | .nil => 1
  | .ptr d => uptoBulk d + 1
  | .slice elems spare => uptoBulkAll elems + uptoBulkAll spare + 1
  | .agg parts => uptoBulkAll parts + 1
  | .iface _ d => uptoBulk d + 1
  | .map entries => uptoBulkEntries entries + 1
  | .held _ => 1
def uptoBulkAll {H : Type} : List (DataW H) → Nat
  | [] => 0
  | d :: r => uptoBulk d + uptoBulkAll r
def uptoBulkEntries {H : Type} : List (Lit × DataW H) → Nat
  | [] => 0
  | x :: r => uptoBulkEntry x + uptoBulkEntries r
def uptoBulkEntry {H : Type} : Lit × DataW H → Nat
  | (.string bytes, d) => bytes.length + uptoBulk d + 1
  | (_, d) => uptoBulk d + 1
 end
def uptoSmall : (H : Type) → List (DataW H) → Bool := fun _ ds => decide (uptoBulkAll ds ≤ 1048576)
def OpenSpec.upto (s : _root_.Go.ChangeSpec) : _root_.Go.OpenSpec := { _root_.Go.OpenSpec.ofChange s with cond := some uptoSmall }

/-- 'laws.FnExactCloseMany', WHERE WHAT IT READS IS OF BULK AT MOST 1048576: true; the input reads as it did. -/
def fnExactCloseManyUptoRow : OpenClaim := { program := "ytopneihamefohaa", sum := "baabd68b6c179cbb6c2a5a6a47d34eba56ef44e48cd2718488297d8c984d20d6", func := "loop.example/radiointerferometer/laws.FnExactCloseMany", spec := "fnExactCloseMany", apart := false, narrowed := true }
def FnExactCloseManyUptoSaid : Prop := fnExactCloseManyUptoRow.holds Try.pinned (OpenSpec.upto fnExactCloseManySpec)

/-- 'laws.FnCloseMany', WHERE WHAT IT READS IS OF BULK AT MOST 1048576: true; the input reads as it did. -/
def fnCloseManyUptoRow : OpenClaim := { program := "ytopneihamefohaa", sum := "baabd68b6c179cbb6c2a5a6a47d34eba56ef44e48cd2718488297d8c984d20d6", func := "loop.example/radiointerferometer/laws.FnCloseMany", spec := "fnCloseMany", apart := false, narrowed := true }
def FnCloseManyUptoSaid : Prop := fnCloseManyUptoRow.holds Try.pinned (OpenSpec.upto fnCloseManySpec)

/-- 'laws.FnExactFlagLinked', WHERE WHAT IT READS IS OF BULK AT MOST 1048576: true; the input reads as it did. -/
def fnExactFlagLinkedUptoRow : OpenClaim := { program := "ytopneihamefohaa", sum := "baabd68b6c179cbb6c2a5a6a47d34eba56ef44e48cd2718488297d8c984d20d6", func := "loop.example/radiointerferometer/laws.FnExactFlagLinked", spec := "fnExactFlagLinked", unfollowed := true, recurses := true, apart := false, narrowed := true }
def FnExactFlagLinkedUptoSaid : Prop := fnExactFlagLinkedUptoRow.holds Try.pinned (OpenSpec.upto fnExactFlagLinkedSpec)

/-- 'laws.FnLinkedLess', WHERE WHAT IT READS IS OF BULK AT MOST 1048576: true; the input reads as it did. -/
def fnLinkedLessUptoRow : OpenClaim := { program := "ytopneihamefohaa", sum := "baabd68b6c179cbb6c2a5a6a47d34eba56ef44e48cd2718488297d8c984d20d6", func := "loop.example/radiointerferometer/laws.FnLinkedLess", spec := "fnLinkedLess", unfollowed := true, recurses := true, apart := false, narrowed := true }
def FnLinkedLessUptoSaid : Prop := fnLinkedLessUptoRow.holds Try.pinned (OpenSpec.upto fnLinkedLessSpec)

/-- 'laws.FnExactFlagLoops', WHERE WHAT IT READS IS OF BULK AT MOST 1048576: true; the input reads as it did. -/
def fnExactFlagLoopsUptoRow : OpenClaim := { program := "ytopneihamefohaa", sum := "baabd68b6c179cbb6c2a5a6a47d34eba56ef44e48cd2718488297d8c984d20d6", func := "loop.example/radiointerferometer/laws.FnExactFlagLoops", spec := "fnExactFlagLoops", unfollowed := true, recurses := true, apart := false, narrowed := true }
def FnExactFlagLoopsUptoSaid : Prop := fnExactFlagLoopsUptoRow.holds Try.pinned (OpenSpec.upto fnExactFlagLoopsSpec)

/-- 'laws.FnLinked', WHERE WHAT IT READS IS OF BULK AT MOST 1048576: true; the input reads as it did. -/
def fnLinkedUptoRow : OpenClaim := { program := "ytopneihamefohaa", sum := "baabd68b6c179cbb6c2a5a6a47d34eba56ef44e48cd2718488297d8c984d20d6", func := "loop.example/radiointerferometer/laws.FnLinked", spec := "fnLinked", unfollowed := true, recurses := true, apart := false, narrowed := true }
def FnLinkedUptoSaid : Prop := fnLinkedUptoRow.holds Try.pinned (OpenSpec.upto fnLinkedSpec)

/-- 'laws.FnExactVisGet', WHERE WHAT IT READS IS OF BULK AT MOST 1048576: true; the input reads as it did. -/
def fnExactVisGetUptoRow : OpenClaim := { program := "ytopneihamefohaa", sum := "baabd68b6c179cbb6c2a5a6a47d34eba56ef44e48cd2718488297d8c984d20d6", func := "loop.example/radiointerferometer/laws.FnExactVisGet", spec := "fnExactVisGet", apart := false, narrowed := true }
def FnExactVisGetUptoSaid : Prop := fnExactVisGetUptoRow.holds Try.pinned (OpenSpec.upto fnExactVisGetSpec)

/-- 'laws.FnVisGet', WHERE WHAT IT READS IS OF BULK AT MOST 1048576: true; the input reads as it did. -/
def fnVisGetUptoRow : OpenClaim := { program := "ytopneihamefohaa", sum := "baabd68b6c179cbb6c2a5a6a47d34eba56ef44e48cd2718488297d8c984d20d6", func := "loop.example/radiointerferometer/laws.FnVisGet", spec := "fnVisGet", apart := false, narrowed := true }
def FnVisGetUptoSaid : Prop := fnVisGetUptoRow.holds Try.pinned (OpenSpec.upto fnVisGetSpec)

/-- 'laws.FnLoopsGroups', WHERE WHAT IT READS IS OF BULK AT MOST 1048576: true; the input reads as it did. -/
def fnLoopsGroupsUptoRow : OpenClaim := { program := "ytopneihamefohaa", sum := "baabd68b6c179cbb6c2a5a6a47d34eba56ef44e48cd2718488297d8c984d20d6", func := "loop.example/radiointerferometer/laws.FnLoopsGroups", spec := "fnLoopsGroups", unfollowed := true, recurses := true, apart := false, narrowed := true }
def FnLoopsGroupsUptoSaid : Prop := fnLoopsGroupsUptoRow.holds Try.pinned (OpenSpec.upto fnLoopsGroupsSpec)

/-- 'laws.FnVisGetList', WHERE WHAT IT READS IS OF BULK AT MOST 1048576: true; the input reads as it did. -/
def fnVisGetListUptoRow : OpenClaim := { program := "ytopneihamefohaa", sum := "baabd68b6c179cbb6c2a5a6a47d34eba56ef44e48cd2718488297d8c984d20d6", func := "loop.example/radiointerferometer/laws.FnVisGetList", spec := "fnVisGetList", apart := false, narrowed := true }
def FnVisGetListUptoSaid : Prop := fnVisGetListUptoRow.holds Try.pinned (OpenSpec.upto fnVisGetListSpec)

/-- 'laws.FnLoops', WHERE WHAT IT READS IS OF BULK AT MOST 1048576: true; the input reads as it did. -/
def fnLoopsUptoRow : OpenClaim := { program := "ytopneihamefohaa", sum := "baabd68b6c179cbb6c2a5a6a47d34eba56ef44e48cd2718488297d8c984d20d6", func := "loop.example/radiointerferometer/laws.FnLoops", spec := "fnLoops", unfollowed := true, recurses := true, apart := false, narrowed := true }
def FnLoopsUptoSaid : Prop := fnLoopsUptoRow.holds Try.pinned (OpenSpec.upto fnLoopsSpec)

/-- 'laws.FnExactCloseVis', WHERE WHAT IT READS IS OF BULK AT MOST 1048576: true; the input reads as it did. -/
def fnExactCloseVisUptoRow : OpenClaim := { program := "ytopneihamefohaa", sum := "baabd68b6c179cbb6c2a5a6a47d34eba56ef44e48cd2718488297d8c984d20d6", func := "loop.example/radiointerferometer/laws.FnExactCloseVis", spec := "fnExactCloseVis", unfollowed := true, recurses := true, apart := false, narrowed := true }
def FnExactCloseVisUptoSaid : Prop := fnExactCloseVisUptoRow.holds Try.pinned (OpenSpec.upto fnExactCloseVisSpec)

end Rows
end Go.Proofs.Ytopneihamefohaa
