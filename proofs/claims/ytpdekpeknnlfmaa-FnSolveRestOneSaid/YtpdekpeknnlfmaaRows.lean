/-
  No cell of these rows narrows 'for every input' (looked for: loops, veiled, ifaces, maps, wideKeys, modest, calm, conditions, laid).
  DERIVED. THE GIVEN ROWS OF THIS SEAT. 12 by the template 'for every input the law returns true; each argument reads behind the call as it read before'; 0 by the template 'total and deterministic' (their statements: YtpdekpeknnlfmaaTotals.lean).
  GIVEN WITH THE SEED: the statements are not yours to turn. If you find one false, say at which input.
  Laid BY PROGRAM, IN A SANDBOX (cutbox-rows.mjs): the forced cells as the released guide's own fill.sh prints them over the translation a5a8a98f0104f860… (all of the seat's roots in one cut). By AI agents, Wed Nov 11 2026. No macro, syntax, notation, axiom, sorry.
-/
import Derived.Test.YtpdekpeknnlfmaaChecked
import GoSem.Claim
import GoSem.ClaimJoined
import GoSem.ClaimMapViews
import Derived.JoinedTies
import Derived.KernelRfl
namespace Go.Proofs.Ytpdekpeknnlfmaa
/- THE CELL 'sum', in the pinned program and in every row, IS THE sha256 OF THE DUMP (.gsa) THAT YtpdekpeknnlfmaaProg.lean LOADS. Nothing in Lean hashes anything: it is a label: what it is worth is what the hold of that sum in a sandbox is worth. -/
noncomputable def Try.pinned : Pinned := { name := "ytpdekpeknnlfmaa", sum := "a5a8a98f0104f8605ce3e11a0fcd6abf063830f512aab41572050ce15abf3864", checked := Try.checked }
namespace Rows
def none {H : Type} : Left H := { results := [], args := [] }

/-- 'laws.FnSolveAmpsSelf': WHATEVER THE INPUT: true; the input reads as it did. -/
def fnSolveAmpsSelfSpec : ChangeSpec := { name := "fnSolveAmpsSelf", fn := fun _ => fun
  | [d] => { results := [.lit (.bool true)], args := [d] }
  | _ => none }
def fnSolveAmpsSelfRow : OpenClaim := { program := "ytpdekpeknnlfmaa", sum := "a5a8a98f0104f8605ce3e11a0fcd6abf063830f512aab41572050ce15abf3864", func := "loop.example/radiointerferometer/laws.FnSolveAmpsSelf", spec := "fnSolveAmpsSelf", unfollowed := true, recurses := true, apart := false }
def FnSolveAmpsSelfSaid : Prop := fnSolveAmpsSelfRow.holds Try.pinned (OpenSpec.ofChange fnSolveAmpsSelfSpec)

/-- ITS FALSE NEIGHBOUR: 'it returns false'. Refute it at one input. -/
def fnSolveAmpsSelfWrong : ChangeSpec := { name := "fnSolveAmpsSelf", fn := fun _ => fun
  | [d] => { results := [.lit (.bool false)], args := [d] }
  | _ => none }
def FnSolveAmpsSelfWrongFalsely : Prop := fnSolveAmpsSelfRow.holds Try.pinned (OpenSpec.ofChange fnSolveAmpsSelfWrong)

/-- 'laws.FnSolveAmps': WHATEVER THE INPUT: true; the input reads as it did. -/
def fnSolveAmpsSpec : ChangeSpec := { name := "fnSolveAmps", fn := fun _ => fun
  | [d1, d2] => { results := [.lit (.bool true)], args := [d1, d2] }
  | _ => none }
def fnSolveAmpsRow : OpenClaim := { program := "ytpdekpeknnlfmaa", sum := "a5a8a98f0104f8605ce3e11a0fcd6abf063830f512aab41572050ce15abf3864", func := "loop.example/radiointerferometer/laws.FnSolveAmps", spec := "fnSolveAmps", unfollowed := true, recurses := true, apart := false }
def FnSolveAmpsSaid : Prop := fnSolveAmpsRow.holds Try.pinned (OpenSpec.ofChange fnSolveAmpsSpec)

/-- ITS FALSE NEIGHBOUR: 'it returns false'. Refute it at one input. -/
def fnSolveAmpsWrong : ChangeSpec := { name := "fnSolveAmps", fn := fun _ => fun
  | [d1, d2] => { results := [.lit (.bool false)], args := [d1, d2] }
  | _ => none }
def FnSolveAmpsWrongFalsely : Prop := fnSolveAmpsRow.holds Try.pinned (OpenSpec.ofChange fnSolveAmpsWrong)

/-- 'laws.FnSolveRestOne': WHATEVER THE INPUT: true; the input reads as it did. -/
def fnSolveRestOneSpec : ChangeSpec := { name := "fnSolveRestOne", fn := fun _ => fun
  | [d1, d2] => { results := [.lit (.bool true)], args := [d1, d2] }
  | _ => none }
def fnSolveRestOneRow : OpenClaim := { program := "ytpdekpeknnlfmaa", sum := "a5a8a98f0104f8605ce3e11a0fcd6abf063830f512aab41572050ce15abf3864", func := "loop.example/radiointerferometer/laws.FnSolveRestOne", spec := "fnSolveRestOne", unfollowed := true, recurses := true, apart := false }
def FnSolveRestOneSaid : Prop := fnSolveRestOneRow.holds Try.pinned (OpenSpec.ofChange fnSolveRestOneSpec)

/-- ITS FALSE NEIGHBOUR: 'it returns false'. Refute it at one input. -/
def fnSolveRestOneWrong : ChangeSpec := { name := "fnSolveRestOne", fn := fun _ => fun
  | [d1, d2] => { results := [.lit (.bool false)], args := [d1, d2] }
  | _ => none }
def FnSolveRestOneWrongFalsely : Prop := fnSolveRestOneRow.holds Try.pinned (OpenSpec.ofChange fnSolveRestOneWrong)

/-- 'laws.FnExactCloseAmp': WHATEVER THE INPUT: true; the input reads as it did. -/
def fnExactCloseAmpSpec : ChangeSpec := { name := "fnExactCloseAmp", fn := fun _ => fun
  | [d1, d2, d3, d4, d5, d6] => { results := [.lit (.bool true)], args := [d1, d2, d3, d4, d5, d6] }
  | _ => none }
def fnExactCloseAmpRow : OpenClaim := { program := "ytpdekpeknnlfmaa", sum := "a5a8a98f0104f8605ce3e11a0fcd6abf063830f512aab41572050ce15abf3864", func := "loop.example/radiointerferometer/laws.FnExactCloseAmp", spec := "fnExactCloseAmp", unfollowed := true, recurses := true, apart := false }
def FnExactCloseAmpSaid : Prop := fnExactCloseAmpRow.holds Try.pinned (OpenSpec.ofChange fnExactCloseAmpSpec)

/-- ITS FALSE NEIGHBOUR: 'it returns false'. Refute it at one input. -/
def fnExactCloseAmpWrong : ChangeSpec := { name := "fnExactCloseAmp", fn := fun _ => fun
  | [d1, d2, d3, d4, d5, d6] => { results := [.lit (.bool false)], args := [d1, d2, d3, d4, d5, d6] }
  | _ => none }
def FnExactCloseAmpWrongFalsely : Prop := fnExactCloseAmpRow.holds Try.pinned (OpenSpec.ofChange fnExactCloseAmpWrong)

/-- 'laws.FnCloseAmp': WHATEVER THE INPUT: true; the input reads as it did. -/
def fnCloseAmpSpec : ChangeSpec := { name := "fnCloseAmp", fn := fun _ => fun
  | [d] => { results := [.lit (.bool true)], args := [d] }
  | _ => none }
def fnCloseAmpRow : OpenClaim := { program := "ytpdekpeknnlfmaa", sum := "a5a8a98f0104f8605ce3e11a0fcd6abf063830f512aab41572050ce15abf3864", func := "loop.example/radiointerferometer/laws.FnCloseAmp", spec := "fnCloseAmp", unfollowed := true, recurses := true, apart := false }
def FnCloseAmpSaid : Prop := fnCloseAmpRow.holds Try.pinned (OpenSpec.ofChange fnCloseAmpSpec)

/-- ITS FALSE NEIGHBOUR: 'it returns false'. Refute it at one input. -/
def fnCloseAmpWrong : ChangeSpec := { name := "fnCloseAmp", fn := fun _ => fun
  | [d] => { results := [.lit (.bool false)], args := [d] }
  | _ => none }
def FnCloseAmpWrongFalsely : Prop := fnCloseAmpRow.holds Try.pinned (OpenSpec.ofChange fnCloseAmpWrong)

/-- 'laws.FnCloseAmpThree': WHATEVER THE INPUT: true; the input reads as it did. -/
def fnCloseAmpThreeSpec : ChangeSpec := { name := "fnCloseAmpThree", fn := fun _ => fun
  | [d] => { results := [.lit (.bool true)], args := [d] }
  | _ => none }
def fnCloseAmpThreeRow : OpenClaim := { program := "ytpdekpeknnlfmaa", sum := "a5a8a98f0104f8605ce3e11a0fcd6abf063830f512aab41572050ce15abf3864", func := "loop.example/radiointerferometer/laws.FnCloseAmpThree", spec := "fnCloseAmpThree", unfollowed := true, recurses := true, apart := false }
def FnCloseAmpThreeSaid : Prop := fnCloseAmpThreeRow.holds Try.pinned (OpenSpec.ofChange fnCloseAmpThreeSpec)

/-- ITS FALSE NEIGHBOUR: 'it returns false'. Refute it at one input. -/
def fnCloseAmpThreeWrong : ChangeSpec := { name := "fnCloseAmpThree", fn := fun _ => fun
  | [d] => { results := [.lit (.bool false)], args := [d] }
  | _ => none }
def FnCloseAmpThreeWrongFalsely : Prop := fnCloseAmpThreeRow.holds Try.pinned (OpenSpec.ofChange fnCloseAmpThreeWrong)

/-- 'laws.FnCloseAmpTurn': WHATEVER THE INPUT: true; the input reads as it did. -/
def fnCloseAmpTurnSpec : ChangeSpec := { name := "fnCloseAmpTurn", fn := fun _ => fun
  | [d] => { results := [.lit (.bool true)], args := [d] }
  | _ => none }
def fnCloseAmpTurnRow : OpenClaim := { program := "ytpdekpeknnlfmaa", sum := "a5a8a98f0104f8605ce3e11a0fcd6abf063830f512aab41572050ce15abf3864", func := "loop.example/radiointerferometer/laws.FnCloseAmpTurn", spec := "fnCloseAmpTurn", unfollowed := true, recurses := true, apart := false }
def FnCloseAmpTurnSaid : Prop := fnCloseAmpTurnRow.holds Try.pinned (OpenSpec.ofChange fnCloseAmpTurnSpec)

/-- ITS FALSE NEIGHBOUR: 'it returns false'. Refute it at one input. -/
def fnCloseAmpTurnWrong : ChangeSpec := { name := "fnCloseAmpTurn", fn := fun _ => fun
  | [d] => { results := [.lit (.bool false)], args := [d] }
  | _ => none }
def FnCloseAmpTurnWrongFalsely : Prop := fnCloseAmpTurnRow.holds Try.pinned (OpenSpec.ofChange fnCloseAmpTurnWrong)

/-- 'laws.FnExactSolveRest': WHATEVER THE INPUT: true; the input reads as it did. -/
def fnExactSolveRestSpec : ChangeSpec := { name := "fnExactSolveRest", fn := fun _ => fun
  | [d1, d2, d3, d4] => { results := [.lit (.bool true)], args := [d1, d2, d3, d4] }
  | _ => none }
def fnExactSolveRestRow : OpenClaim := { program := "ytpdekpeknnlfmaa", sum := "a5a8a98f0104f8605ce3e11a0fcd6abf063830f512aab41572050ce15abf3864", func := "loop.example/radiointerferometer/laws.FnExactSolveRest", spec := "fnExactSolveRest", unfollowed := true, recurses := true, apart := false }
def FnExactSolveRestSaid : Prop := fnExactSolveRestRow.holds Try.pinned (OpenSpec.ofChange fnExactSolveRestSpec)

/-- ITS FALSE NEIGHBOUR: 'it returns false'. Refute it at one input. -/
def fnExactSolveRestWrong : ChangeSpec := { name := "fnExactSolveRest", fn := fun _ => fun
  | [d1, d2, d3, d4] => { results := [.lit (.bool false)], args := [d1, d2, d3, d4] }
  | _ => none }
def FnExactSolveRestWrongFalsely : Prop := fnExactSolveRestRow.holds Try.pinned (OpenSpec.ofChange fnExactSolveRestWrong)

/-- 'laws.FnExactSolveAmps': WHATEVER THE INPUT: true; the input reads as it did. -/
def fnExactSolveAmpsSpec : ChangeSpec := { name := "fnExactSolveAmps", fn := fun _ => fun
  | [d1, d2, d3] => { results := [.lit (.bool true)], args := [d1, d2, d3] }
  | _ => none }
def fnExactSolveAmpsRow : OpenClaim := { program := "ytpdekpeknnlfmaa", sum := "a5a8a98f0104f8605ce3e11a0fcd6abf063830f512aab41572050ce15abf3864", func := "loop.example/radiointerferometer/laws.FnExactSolveAmps", spec := "fnExactSolveAmps", unfollowed := true, recurses := true, apart := false }
def FnExactSolveAmpsSaid : Prop := fnExactSolveAmpsRow.holds Try.pinned (OpenSpec.ofChange fnExactSolveAmpsSpec)

/-- ITS FALSE NEIGHBOUR: 'it returns false'. Refute it at one input. -/
def fnExactSolveAmpsWrong : ChangeSpec := { name := "fnExactSolveAmps", fn := fun _ => fun
  | [d1, d2, d3] => { results := [.lit (.bool false)], args := [d1, d2, d3] }
  | _ => none }
def FnExactSolveAmpsWrongFalsely : Prop := fnExactSolveAmpsRow.holds Try.pinned (OpenSpec.ofChange fnExactSolveAmpsWrong)

/-- 'laws.FnSolveAmpsApply': WHATEVER THE INPUT: true; the input reads as it did. -/
def fnSolveAmpsApplySpec : ChangeSpec := { name := "fnSolveAmpsApply", fn := fun _ => fun
  | [d] => { results := [.lit (.bool true)], args := [d] }
  | _ => none }
def fnSolveAmpsApplyRow : OpenClaim := { program := "ytpdekpeknnlfmaa", sum := "a5a8a98f0104f8605ce3e11a0fcd6abf063830f512aab41572050ce15abf3864", func := "loop.example/radiointerferometer/laws.FnSolveAmpsApply", spec := "fnSolveAmpsApply", unfollowed := true, recurses := true, apart := false }
def FnSolveAmpsApplySaid : Prop := fnSolveAmpsApplyRow.holds Try.pinned (OpenSpec.ofChange fnSolveAmpsApplySpec)

/-- ITS FALSE NEIGHBOUR: 'it returns false'. Refute it at one input. -/
def fnSolveAmpsApplyWrong : ChangeSpec := { name := "fnSolveAmpsApply", fn := fun _ => fun
  | [d] => { results := [.lit (.bool false)], args := [d] }
  | _ => none }
def FnSolveAmpsApplyWrongFalsely : Prop := fnSolveAmpsApplyRow.holds Try.pinned (OpenSpec.ofChange fnSolveAmpsApplyWrong)

/-- 'laws.FnRemoveApply': WHATEVER THE INPUT: true; the input reads as it did. -/
def fnRemoveApplySpec : ChangeSpec := { name := "fnRemoveApply", fn := fun _ => fun
  | [d] => { results := [.lit (.bool true)], args := [d] }
  | _ => none }
def fnRemoveApplyRow : OpenClaim := { program := "ytpdekpeknnlfmaa", sum := "a5a8a98f0104f8605ce3e11a0fcd6abf063830f512aab41572050ce15abf3864", func := "loop.example/radiointerferometer/laws.FnRemoveApply", spec := "fnRemoveApply", unfollowed := true, recurses := true, apart := false }
def FnRemoveApplySaid : Prop := fnRemoveApplyRow.holds Try.pinned (OpenSpec.ofChange fnRemoveApplySpec)

/-- ITS FALSE NEIGHBOUR: 'it returns false'. Refute it at one input. -/
def fnRemoveApplyWrong : ChangeSpec := { name := "fnRemoveApply", fn := fun _ => fun
  | [d] => { results := [.lit (.bool false)], args := [d] }
  | _ => none }
def FnRemoveApplyWrongFalsely : Prop := fnRemoveApplyRow.holds Try.pinned (OpenSpec.ofChange fnRemoveApplyWrong)

/-- 'laws.FnCloseAmpGain': WHATEVER THE INPUT: true; the input reads as it did. -/
def fnCloseAmpGainSpec : ChangeSpec := { name := "fnCloseAmpGain", fn := fun _ => fun
  | [d1, d2] => { results := [.lit (.bool true)], args := [d1, d2] }
  | _ => none }
def fnCloseAmpGainRow : OpenClaim := { program := "ytpdekpeknnlfmaa", sum := "a5a8a98f0104f8605ce3e11a0fcd6abf063830f512aab41572050ce15abf3864", func := "loop.example/radiointerferometer/laws.FnCloseAmpGain", spec := "fnCloseAmpGain", unfollowed := true, recurses := true, apart := false }
def FnCloseAmpGainSaid : Prop := fnCloseAmpGainRow.holds Try.pinned (OpenSpec.ofChange fnCloseAmpGainSpec)

/-- ITS FALSE NEIGHBOUR: 'it returns false'. Refute it at one input. -/
def fnCloseAmpGainWrong : ChangeSpec := { name := "fnCloseAmpGain", fn := fun _ => fun
  | [d1, d2] => { results := [.lit (.bool false)], args := [d1, d2] }
  | _ => none }
def FnCloseAmpGainWrongFalsely : Prop := fnCloseAmpGainRow.holds Try.pinned (OpenSpec.ofChange fnCloseAmpGainWrong)

/- THE SECOND FORM. 'bulk': how many values and letters a reading holds, each counted each time it is reached (what is shared counts as often as it is met; a slice's spare places count too). A statement '..UptoSaid' is the law's where the arguments, and the package variables that the reading takes, are together of bulk at most 1048576: NARROWER than '..Said'. Prove '..Said' where nothing that the law and all that it calls make is longer than what came in: it says more and counts as full. Else prove '..UptoSaid'. A law counts once. -/
mutual
def uptoBulk {H : Type} : DataW H → Nat
  | .lit (.string bytes) => bytes.length + 1
  | .lit _ => 1
  | .nil => 1
  | .ptr d => uptoBulk d + 1
  | .slice elems spare => uptoBulkAll elems + uptoBulkAll spare + 1
  | .agg parts => uptoBulkAll parts + 1
  | .iface _ d => uptoBulk d + 1
  | .map entries => uptoBulkEntries entries + 1
  | .held _ => 1
def uptoBulkAll {H : Type} : List (DataW H) → Nat
  | [] => 0
  | d :: r => uptoBulk d + uptoBulkAll r
def uptoBulkEntries {H : Type} : List (Lit × DataW H) → Nat
  | [] => 0
  | x :: r => uptoBulkEntry x + uptoBulkEntries r
def uptoBulkEntry {H : Type} : Lit × DataW H → Nat
  | (.string bytes, d) => bytes.length + uptoBulk d + 1
  | (_, d) => uptoBulk d + 1
 end
def uptoSmall : (H : Type) → List (DataW H) → Bool := fun _ ds => decide (uptoBulkAll ds ≤ 1048576)
def OpenSpec.upto (s : _root_.Go.ChangeSpec) : _root_.Go.OpenSpec := { _root_.Go.OpenSpec.ofChange s with cond := some uptoSmall }

/-- 'laws.FnSolveAmpsSelf', WHERE WHAT IT READS IS OF BULK AT MOST 1048576: true; the input reads as it did. -/
def fnSolveAmpsSelfUptoRow : OpenClaim := { program := "ytpdekpeknnlfmaa", sum := "a5a8a98f0104f8605ce3e11a0fcd6abf063830f512aab41572050ce15abf3864", func := "loop.example/radiointerferometer/laws.FnSolveAmpsSelf", spec := "fnSolveAmpsSelf", unfollowed := true, recurses := true, apart := false, narrowed := true }
def FnSolveAmpsSelfUptoSaid : Prop := fnSolveAmpsSelfUptoRow.holds Try.pinned (OpenSpec.upto fnSolveAmpsSelfSpec)

/-- 'laws.FnSolveAmps', WHERE WHAT IT READS IS OF BULK AT MOST 1048576: true; the input reads as it did. -/
def fnSolveAmpsUptoRow : OpenClaim := { program := "ytpdekpeknnlfmaa", sum := "a5a8a98f0104f8605ce3e11a0fcd6abf063830f512aab41572050ce15abf3864", func := "loop.example/radiointerferometer/laws.FnSolveAmps", spec := "fnSolveAmps", unfollowed := true, recurses := true, apart := false, narrowed := true }
def FnSolveAmpsUptoSaid : Prop := fnSolveAmpsUptoRow.holds Try.pinned (OpenSpec.upto fnSolveAmpsSpec)

/-- 'laws.FnSolveRestOne', WHERE WHAT IT READS IS OF BULK AT MOST 1048576: true; the input reads as it did. -/
def fnSolveRestOneUptoRow : OpenClaim := { program := "ytpdekpeknnlfmaa", sum := "a5a8a98f0104f8605ce3e11a0fcd6abf063830f512aab41572050ce15abf3864", func := "loop.example/radiointerferometer/laws.FnSolveRestOne", spec := "fnSolveRestOne", unfollowed := true, recurses := true, apart := false, narrowed := true }
def FnSolveRestOneUptoSaid : Prop := fnSolveRestOneUptoRow.holds Try.pinned (OpenSpec.upto fnSolveRestOneSpec)

/-- 'laws.FnExactCloseAmp', WHERE WHAT IT READS IS OF BULK AT MOST 1048576: true; the input reads as it did. -/
def fnExactCloseAmpUptoRow : OpenClaim := { program := "ytpdekpeknnlfmaa", sum := "a5a8a98f0104f8605ce3e11a0fcd6abf063830f512aab41572050ce15abf3864", func := "loop.example/radiointerferometer/laws.FnExactCloseAmp", spec := "fnExactCloseAmp", unfollowed := true, recurses := true, apart := false, narrowed := true }
def FnExactCloseAmpUptoSaid : Prop := fnExactCloseAmpUptoRow.holds Try.pinned (OpenSpec.upto fnExactCloseAmpSpec)

/-- 'laws.FnCloseAmp', WHERE WHAT IT READS IS OF BULK AT MOST 1048576: true; the input reads as it did. -/
def fnCloseAmpUptoRow : OpenClaim := { program := "ytpdekpeknnlfmaa", sum := "a5a8a98f0104f8605ce3e11a0fcd6abf063830f512aab41572050ce15abf3864", func := "loop.example/radiointerferometer/laws.FnCloseAmp", spec := "fnCloseAmp", unfollowed := true, recurses := true, apart := false, narrowed := true }
def FnCloseAmpUptoSaid : Prop := fnCloseAmpUptoRow.holds Try.pinned (OpenSpec.upto fnCloseAmpSpec)

/-- 'laws.FnCloseAmpThree', WHERE WHAT IT READS IS OF BULK AT MOST 1048576: true; the input reads as it did. -/
def fnCloseAmpThreeUptoRow : OpenClaim := { program := "ytpdekpeknnlfmaa", sum := "a5a8a98f0104f8605ce3e11a0fcd6abf063830f512aab41572050ce15abf3864", func := "loop.example/radiointerferometer/laws.FnCloseAmpThree", spec := "fnCloseAmpThree", unfollowed := true, recurses := true, apart := false, narrowed := true }
def FnCloseAmpThreeUptoSaid : Prop := fnCloseAmpThreeUptoRow.holds Try.pinned (OpenSpec.upto fnCloseAmpThreeSpec)

/-- 'laws.FnCloseAmpTurn', WHERE WHAT IT READS IS OF BULK AT MOST 1048576: true; the input reads as it did. -/
def fnCloseAmpTurnUptoRow : OpenClaim := { program := "ytpdekpeknnlfmaa", sum := "a5a8a98f0104f8605ce3e11a0fcd6abf063830f512aab41572050ce15abf3864", func := "loop.example/radiointerferometer/laws.FnCloseAmpTurn", spec := "fnCloseAmpTurn", unfollowed := true, recurses := true, apart := false, narrowed := true }
def FnCloseAmpTurnUptoSaid : Prop := fnCloseAmpTurnUptoRow.holds Try.pinned (OpenSpec.upto fnCloseAmpTurnSpec)

/-- 'laws.FnExactSolveRest', WHERE WHAT IT READS IS OF BULK AT MOST 1048576: true; the input reads as it did. -/
def fnExactSolveRestUptoRow : OpenClaim := { program := "ytpdekpeknnlfmaa", sum := "a5a8a98f0104f8605ce3e11a0fcd6abf063830f512aab41572050ce15abf3864", func := "loop.example/radiointerferometer/laws.FnExactSolveRest", spec := "fnExactSolveRest", unfollowed := true, recurses := true, apart := false, narrowed := true }
def FnExactSolveRestUptoSaid : Prop := fnExactSolveRestUptoRow.holds Try.pinned (OpenSpec.upto fnExactSolveRestSpec)

/-- 'laws.FnExactSolveAmps', WHERE WHAT IT READS IS OF BULK AT MOST 1048576: true; the input reads as it did. -/
def fnExactSolveAmpsUptoRow : OpenClaim := { program := "ytpdekpeknnlfmaa", sum := "a5a8a98f0104f8605ce3e11a0fcd6abf063830f512aab41572050ce15abf3864", func := "loop.example/radiointerferometer/laws.FnExactSolveAmps", spec := "fnExactSolveAmps", unfollowed := true, recurses := true, apart := false, narrowed := true }
def FnExactSolveAmpsUptoSaid : Prop := fnExactSolveAmpsUptoRow.holds Try.pinned (OpenSpec.upto fnExactSolveAmpsSpec)

/-- 'laws.FnSolveAmpsApply', WHERE WHAT IT READS IS OF BULK AT MOST 1048576: true; the input reads as it did. -/
def fnSolveAmpsApplyUptoRow : OpenClaim := { program := "ytpdekpeknnlfmaa", sum := "a5a8a98f0104f8605ce3e11a0fcd6abf063830f512aab41572050ce15abf3864", func := "loop.example/radiointerferometer/laws.FnSolveAmpsApply", spec := "fnSolveAmpsApply", unfollowed := true, recurses := true, apart := false, narrowed := true }
def FnSolveAmpsApplyUptoSaid : Prop := fnSolveAmpsApplyUptoRow.holds Try.pinned (OpenSpec.upto fnSolveAmpsApplySpec)

/-- 'laws.FnRemoveApply', WHERE WHAT IT READS IS OF BULK AT MOST 1048576: true; the input reads as it did. -/
def fnRemoveApplyUptoRow : OpenClaim := { program := "ytpdekpeknnlfmaa", sum := "a5a8a98f0104f8605ce3e11a0fcd6abf063830f512aab41572050ce15abf3864", func := "loop.example/radiointerferometer/laws.FnRemoveApply", spec := "fnRemoveApply", unfollowed := true, recurses := true, apart := false, narrowed := true }
def FnRemoveApplyUptoSaid : Prop := fnRemoveApplyUptoRow.holds Try.pinned (OpenSpec.upto fnRemoveApplySpec)

/-- 'laws.FnCloseAmpGain', WHERE WHAT IT READS IS OF BULK AT MOST 1048576: true; the input reads as it did. -/
def fnCloseAmpGainUptoRow : OpenClaim := { program := "ytpdekpeknnlfmaa", sum := "a5a8a98f0104f8605ce3e11a0fcd6abf063830f512aab41572050ce15abf3864", func := "loop.example/radiointerferometer/laws.FnCloseAmpGain", spec := "fnCloseAmpGain", unfollowed := true, recurses := true, apart := false, narrowed := true }
def FnCloseAmpGainUptoSaid : Prop := fnCloseAmpGainUptoRow.holds Try.pinned (OpenSpec.upto fnCloseAmpGainSpec)

end Rows
end Go.Proofs.Ytpdekpeknnlfmaa
