/-
  No cell of these rows narrows 'for every input' (looked for: loops, veiled, ifaces, maps, wideKeys, modest, calm, conditions, laid).
  DERIVED. THE GIVEN ROWS OF THIS SEAT. 11 by the template 'for every input the law returns true; each argument reads behind the call as it read before'; 0 by the template 'total and deterministic' (their statements: YthlhojbbecioaaaTotals.lean).
  GIVEN WITH THE SEED: the statements are not yours to turn. If you find one false, say at which input.
  Laid BY PROGRAM, IN A SANDBOX (cutbox-rows.mjs): the forced cells as the released guide's own fill.sh prints them over the translation 1b3403e553eaaa25… (all of the seat's roots in one cut). By AI agents, Wed Nov 11 2026. No macro, syntax, notation, axiom, sorry.
-/
import Derived.Test.YthlhojbbecioaaaChecked
import GoSem.Claim
import GoSem.ClaimJoined
import GoSem.ClaimMapViews
import Derived.JoinedTies
import Derived.KernelRfl
namespace Go.Proofs.Ythlhojbbecioaaa
/- THE CELL 'sum', in the pinned program and in every row, IS THE sha256 OF THE DUMP (.gsa) THAT YthlhojbbecioaaaProg.lean LOADS. Nothing in Lean hashes anything: it is a label: what it is worth is what the hold of that sum in a sandbox is worth. -/
noncomputable def Try.pinned : Pinned := { name := "ythlhojbbecioaaa", sum := "1b3403e553eaaa251678b1bc3299213d77cf7abe5637f55162fee573926c2b29", checked := Try.checked }
namespace Rows
def none {H : Type} : Left H := { results := [], args := [] }

/-- 'laws.FnTransformPower': WHATEVER THE INPUT: true; the input reads as it did. -/
def fnTransformPowerSpec : ChangeSpec := { name := "fnTransformPower", fn := fun _ => fun
  | [d] => { results := [.lit (.bool true)], args := [d] }
  | _ => none }
def fnTransformPowerRow : OpenClaim := { program := "ythlhojbbecioaaa", sum := "1b3403e553eaaa251678b1bc3299213d77cf7abe5637f55162fee573926c2b29", func := "loop.example/radiointerferometer/laws.FnTransformPower", spec := "fnTransformPower", apart := false }
def FnTransformPowerSaid : Prop := fnTransformPowerRow.holds Try.pinned (OpenSpec.ofChange fnTransformPowerSpec)

/-- ITS FALSE NEIGHBOUR: 'it returns false'. Refute it at one input. -/
def fnTransformPowerWrong : ChangeSpec := { name := "fnTransformPower", fn := fun _ => fun
  | [d] => { results := [.lit (.bool false)], args := [d] }
  | _ => none }
def FnTransformPowerWrongFalsely : Prop := fnTransformPowerRow.holds Try.pinned (OpenSpec.ofChange fnTransformPowerWrong)

/-- 'laws.FnTransformReal': WHATEVER THE INPUT: true; the input reads as it did. -/
def fnTransformRealSpec : ChangeSpec := { name := "fnTransformReal", fn := fun _ => fun
  | [d] => { results := [.lit (.bool true)], args := [d] }
  | _ => none }
def fnTransformRealRow : OpenClaim := { program := "ythlhojbbecioaaa", sum := "1b3403e553eaaa251678b1bc3299213d77cf7abe5637f55162fee573926c2b29", func := "loop.example/radiointerferometer/laws.FnTransformReal", spec := "fnTransformReal", apart := false }
def FnTransformRealSaid : Prop := fnTransformRealRow.holds Try.pinned (OpenSpec.ofChange fnTransformRealSpec)

/-- ITS FALSE NEIGHBOUR: 'it returns false'. Refute it at one input. -/
def fnTransformRealWrong : ChangeSpec := { name := "fnTransformReal", fn := fun _ => fun
  | [d] => { results := [.lit (.bool false)], args := [d] }
  | _ => none }
def FnTransformRealWrongFalsely : Prop := fnTransformRealRow.holds Try.pinned (OpenSpec.ofChange fnTransformRealWrong)

/-- 'laws.FnTransformAdd': WHATEVER THE INPUT: true; the input reads as it did. -/
def fnTransformAddSpec : ChangeSpec := { name := "fnTransformAdd", fn := fun _ => fun
  | [d] => { results := [.lit (.bool true)], args := [d] }
  | _ => none }
def fnTransformAddRow : OpenClaim := { program := "ythlhojbbecioaaa", sum := "1b3403e553eaaa251678b1bc3299213d77cf7abe5637f55162fee573926c2b29", func := "loop.example/radiointerferometer/laws.FnTransformAdd", spec := "fnTransformAdd", apart := false }
def FnTransformAddSaid : Prop := fnTransformAddRow.holds Try.pinned (OpenSpec.ofChange fnTransformAddSpec)

/-- ITS FALSE NEIGHBOUR: 'it returns false'. Refute it at one input. -/
def fnTransformAddWrong : ChangeSpec := { name := "fnTransformAdd", fn := fun _ => fun
  | [d] => { results := [.lit (.bool false)], args := [d] }
  | _ => none }
def FnTransformAddWrongFalsely : Prop := fnTransformAddRow.holds Try.pinned (OpenSpec.ofChange fnTransformAddWrong)

/-- 'laws.FnFoldThree': WHATEVER THE INPUT: true; the input reads as it did. -/
def fnFoldThreeSpec : ChangeSpec := { name := "fnFoldThree", fn := fun _ => fun
  | [d1, d2] => { results := [.lit (.bool true)], args := [d1, d2] }
  | _ => none }
def fnFoldThreeRow : OpenClaim := { program := "ythlhojbbecioaaa", sum := "1b3403e553eaaa251678b1bc3299213d77cf7abe5637f55162fee573926c2b29", func := "loop.example/radiointerferometer/laws.FnFoldThree", spec := "fnFoldThree", apart := false }
def FnFoldThreeSaid : Prop := fnFoldThreeRow.holds Try.pinned (OpenSpec.ofChange fnFoldThreeSpec)

/-- ITS FALSE NEIGHBOUR: 'it returns false'. Refute it at one input. -/
def fnFoldThreeWrong : ChangeSpec := { name := "fnFoldThree", fn := fun _ => fun
  | [d1, d2] => { results := [.lit (.bool false)], args := [d1, d2] }
  | _ => none }
def FnFoldThreeWrongFalsely : Prop := fnFoldThreeRow.holds Try.pinned (OpenSpec.ofChange fnFoldThreeWrong)

/-- 'laws.FnFoldShift': WHATEVER THE INPUT: true; the input reads as it did. -/
def fnFoldShiftSpec : ChangeSpec := { name := "fnFoldShift", fn := fun _ => fun
  | [d1, d2] => { results := [.lit (.bool true)], args := [d1, d2] }
  | _ => none }
def fnFoldShiftRow : OpenClaim := { program := "ythlhojbbecioaaa", sum := "1b3403e553eaaa251678b1bc3299213d77cf7abe5637f55162fee573926c2b29", func := "loop.example/radiointerferometer/laws.FnFoldShift", spec := "fnFoldShift", apart := false }
def FnFoldShiftSaid : Prop := fnFoldShiftRow.holds Try.pinned (OpenSpec.ofChange fnFoldShiftSpec)

/-- ITS FALSE NEIGHBOUR: 'it returns false'. Refute it at one input. -/
def fnFoldShiftWrong : ChangeSpec := { name := "fnFoldShift", fn := fun _ => fun
  | [d1, d2] => { results := [.lit (.bool false)], args := [d1, d2] }
  | _ => none }
def FnFoldShiftWrongFalsely : Prop := fnFoldShiftRow.holds Try.pinned (OpenSpec.ofChange fnFoldShiftWrong)

/-- 'laws.FnTransformSpot': WHATEVER THE INPUT: true; the input reads as it did. -/
def fnTransformSpotSpec : ChangeSpec := { name := "fnTransformSpot", fn := fun _ => fun
  | [d1, d2] => { results := [.lit (.bool true)], args := [d1, d2] }
  | _ => none }
def fnTransformSpotRow : OpenClaim := { program := "ythlhojbbecioaaa", sum := "1b3403e553eaaa251678b1bc3299213d77cf7abe5637f55162fee573926c2b29", func := "loop.example/radiointerferometer/laws.FnTransformSpot", spec := "fnTransformSpot", apart := false }
def FnTransformSpotSaid : Prop := fnTransformSpotRow.holds Try.pinned (OpenSpec.ofChange fnTransformSpotSpec)

/-- ITS FALSE NEIGHBOUR: 'it returns false'. Refute it at one input. -/
def fnTransformSpotWrong : ChangeSpec := { name := "fnTransformSpot", fn := fun _ => fun
  | [d1, d2] => { results := [.lit (.bool false)], args := [d1, d2] }
  | _ => none }
def FnTransformSpotWrongFalsely : Prop := fnTransformSpotRow.holds Try.pinned (OpenSpec.ofChange fnTransformSpotWrong)

/-- 'laws.FnFold': WHATEVER THE INPUT: true; the input reads as it did. -/
def fnFoldSpec : ChangeSpec := { name := "fnFold", fn := fun _ => fun
  | [d] => { results := [.lit (.bool true)], args := [d] }
  | _ => none }
def fnFoldRow : OpenClaim := { program := "ythlhojbbecioaaa", sum := "1b3403e553eaaa251678b1bc3299213d77cf7abe5637f55162fee573926c2b29", func := "loop.example/radiointerferometer/laws.FnFold", spec := "fnFold", apart := false }
def FnFoldSaid : Prop := fnFoldRow.holds Try.pinned (OpenSpec.ofChange fnFoldSpec)

/-- ITS FALSE NEIGHBOUR: 'it returns false'. Refute it at one input. -/
def fnFoldWrong : ChangeSpec := { name := "fnFold", fn := fun _ => fun
  | [d] => { results := [.lit (.bool false)], args := [d] }
  | _ => none }
def FnFoldWrongFalsely : Prop := fnFoldRow.holds Try.pinned (OpenSpec.ofChange fnFoldWrong)

/-- 'laws.FnTransformConj': WHATEVER THE INPUT: true; the input reads as it did. -/
def fnTransformConjSpec : ChangeSpec := { name := "fnTransformConj", fn := fun _ => fun
  | [d] => { results := [.lit (.bool true)], args := [d] }
  | _ => none }
def fnTransformConjRow : OpenClaim := { program := "ythlhojbbecioaaa", sum := "1b3403e553eaaa251678b1bc3299213d77cf7abe5637f55162fee573926c2b29", func := "loop.example/radiointerferometer/laws.FnTransformConj", spec := "fnTransformConj", apart := false }
def FnTransformConjSaid : Prop := fnTransformConjRow.holds Try.pinned (OpenSpec.ofChange fnTransformConjSpec)

/-- ITS FALSE NEIGHBOUR: 'it returns false'. Refute it at one input. -/
def fnTransformConjWrong : ChangeSpec := { name := "fnTransformConj", fn := fun _ => fun
  | [d] => { results := [.lit (.bool false)], args := [d] }
  | _ => none }
def FnTransformConjWrongFalsely : Prop := fnTransformConjRow.holds Try.pinned (OpenSpec.ofChange fnTransformConjWrong)

/-- 'laws.FnFoldSpot': WHATEVER THE INPUT: true; the input reads as it did. -/
def fnFoldSpotSpec : ChangeSpec := { name := "fnFoldSpot", fn := fun _ => fun
  | [d1, d2] => { results := [.lit (.bool true)], args := [d1, d2] }
  | _ => none }
def fnFoldSpotRow : OpenClaim := { program := "ythlhojbbecioaaa", sum := "1b3403e553eaaa251678b1bc3299213d77cf7abe5637f55162fee573926c2b29", func := "loop.example/radiointerferometer/laws.FnFoldSpot", spec := "fnFoldSpot", apart := false }
def FnFoldSpotSaid : Prop := fnFoldSpotRow.holds Try.pinned (OpenSpec.ofChange fnFoldSpotSpec)

/-- ITS FALSE NEIGHBOUR: 'it returns false'. Refute it at one input. -/
def fnFoldSpotWrong : ChangeSpec := { name := "fnFoldSpot", fn := fun _ => fun
  | [d1, d2] => { results := [.lit (.bool false)], args := [d1, d2] }
  | _ => none }
def FnFoldSpotWrongFalsely : Prop := fnFoldSpotRow.holds Try.pinned (OpenSpec.ofChange fnFoldSpotWrong)

/-- 'laws.FnExactSkyTransform': WHATEVER THE INPUT: true; the input reads as it did. -/
def fnExactSkyTransformSpec : ChangeSpec := { name := "fnExactSkyTransform", fn := fun _ => fun
  | [d] => { results := [.lit (.bool true)], args := [d] }
  | _ => none }
def fnExactSkyTransformRow : OpenClaim := { program := "ythlhojbbecioaaa", sum := "1b3403e553eaaa251678b1bc3299213d77cf7abe5637f55162fee573926c2b29", func := "loop.example/radiointerferometer/laws.FnExactSkyTransform", spec := "fnExactSkyTransform", apart := false }
def FnExactSkyTransformSaid : Prop := fnExactSkyTransformRow.holds Try.pinned (OpenSpec.ofChange fnExactSkyTransformSpec)

/-- ITS FALSE NEIGHBOUR: 'it returns false'. Refute it at one input. -/
def fnExactSkyTransformWrong : ChangeSpec := { name := "fnExactSkyTransform", fn := fun _ => fun
  | [d] => { results := [.lit (.bool false)], args := [d] }
  | _ => none }
def FnExactSkyTransformWrongFalsely : Prop := fnExactSkyTransformRow.holds Try.pinned (OpenSpec.ofChange fnExactSkyTransformWrong)

/-- 'laws.FnFoldAdd': WHATEVER THE INPUT: true; the input reads as it did. -/
def fnFoldAddSpec : ChangeSpec := { name := "fnFoldAdd", fn := fun _ => fun
  | [d1, d2] => { results := [.lit (.bool true)], args := [d1, d2] }
  | _ => none }
def fnFoldAddRow : OpenClaim := { program := "ythlhojbbecioaaa", sum := "1b3403e553eaaa251678b1bc3299213d77cf7abe5637f55162fee573926c2b29", func := "loop.example/radiointerferometer/laws.FnFoldAdd", spec := "fnFoldAdd", apart := false }
def FnFoldAddSaid : Prop := fnFoldAddRow.holds Try.pinned (OpenSpec.ofChange fnFoldAddSpec)

/-- ITS FALSE NEIGHBOUR: 'it returns false'. Refute it at one input. -/
def fnFoldAddWrong : ChangeSpec := { name := "fnFoldAdd", fn := fun _ => fun
  | [d1, d2] => { results := [.lit (.bool false)], args := [d1, d2] }
  | _ => none }
def FnFoldAddWrongFalsely : Prop := fnFoldAddRow.holds Try.pinned (OpenSpec.ofChange fnFoldAddWrong)

/- THE SECOND FORM. 'bulk': how many values and letters a reading holds, each counted each time it is reached (what is shared counts as often as it is met; a slice's spare places count too). A statement '..UptoSaid' is the law's where the arguments, and the package variables that the reading takes, are together of bulk at most 1048576: NARROWER than '..Said'. Prove '..Said' where nothing that the law and all that it calls make is longer than what came in: it says more and counts as full. Else prove '..UptoSaid'. A law counts once. -/
mutual
def uptoBulk {H : Type} : DataW H → Nat
  | .lit (.string bytes) => bytes.length + 1
  | .lit _ => 1
  | .nil => 1
  | .ptr d => uptoBulk d + 1
  | .slice elems spare => uptoBulkAll elems + uptoBulkAll spare + 1
  | .agg parts => uptoBulkAll parts + 1
  | .iface _ d => uptoBulk d + 1
  | .map entries => uptoBulkEntries entries + 1
  | .held _ => 1
def uptoBulkAll {H : Type} : List (DataW H) → Nat
  | [] => 0
  | d :: r => uptoBulk d + uptoBulkAll r
def uptoBulkEntries {H : Type} : List (Lit × DataW H) → Nat
  | [] => 0
  | x :: r => uptoBulkEntry x + uptoBulkEntries r
def uptoBulkEntry {H : Type} : Lit × DataW H → Nat
  | (.string bytes, d) => bytes.length + uptoBulk d + 1
  | (_, d) => uptoBulk d + 1
 end
def uptoSmall : (H : Type) → List (DataW H) → Bool := fun _ ds => decide (uptoBulkAll ds ≤ 1048576)
def OpenSpec.upto (s : _root_.Go.ChangeSpec) : _root_.Go.OpenSpec := { _root_.Go.OpenSpec.ofChange s with cond := some uptoSmall }

/-- 'laws.FnTransformPower', WHERE WHAT IT READS IS OF BULK AT MOST 1048576: true; the input reads as it did. -/
def fnTransformPowerUptoRow : OpenClaim := { program := "ythlhojbbecioaaa", sum := "1b3403e553eaaa251678b1bc3299213d77cf7abe5637f55162fee573926c2b29", func := "loop.example/radiointerferometer/laws.FnTransformPower", spec := "fnTransformPower", apart := false, narrowed := true }
def FnTransformPowerUptoSaid : Prop := fnTransformPowerUptoRow.holds Try.pinned (OpenSpec.upto fnTransformPowerSpec)

/-- 'laws.FnTransformReal', WHERE WHAT IT READS IS OF BULK AT MOST 1048576: true; the input reads as it did. -/
def fnTransformRealUptoRow : OpenClaim := { program := "ythlhojbbecioaaa", sum := "1b3403e553eaaa251678b1bc3299213d77cf7abe5637f55162fee573926c2b29", func := "loop.example/radiointerferometer/laws.FnTransformReal", spec := "fnTransformReal", apart := false, narrowed := true }
def FnTransformRealUptoSaid : Prop := fnTransformRealUptoRow.holds Try.pinned (OpenSpec.upto fnTransformRealSpec)

/-- 'laws.FnTransformAdd', WHERE WHAT IT READS IS OF BULK AT MOST 1048576: true; the input reads as it did. -/
def fnTransformAddUptoRow : OpenClaim := { program := "ythlhojbbecioaaa", sum := "1b3403e553eaaa251678b1bc3299213d77cf7abe5637f55162fee573926c2b29", func := "loop.example/radiointerferometer/laws.FnTransformAdd", spec := "fnTransformAdd", apart := false, narrowed := true }
def FnTransformAddUptoSaid : Prop := fnTransformAddUptoRow.holds Try.pinned (OpenSpec.upto fnTransformAddSpec)

/-- 'laws.FnFoldThree', WHERE WHAT IT READS IS OF BULK AT MOST 1048576: true; the input reads as it did. -/
def fnFoldThreeUptoRow : OpenClaim := { program := "ythlhojbbecioaaa", sum := "1b3403e553eaaa251678b1bc3299213d77cf7abe5637f55162fee573926c2b29", func := "loop.example/radiointerferometer/laws.FnFoldThree", spec := "fnFoldThree", apart := false, narrowed := true }
def FnFoldThreeUptoSaid : Prop := fnFoldThreeUptoRow.holds Try.pinned (OpenSpec.upto fnFoldThreeSpec)

/-- 'laws.FnFoldShift', WHERE WHAT IT READS IS OF BULK AT MOST 1048576: true; the input reads as it did. -/
def fnFoldShiftUptoRow : OpenClaim := { program := "ythlhojbbecioaaa", sum := "1b3403e553eaaa251678b1bc3299213d77cf7abe5637f55162fee573926c2b29", func := "loop.example/radiointerferometer/laws.FnFoldShift", spec := "fnFoldShift", apart := false, narrowed := true }
def FnFoldShiftUptoSaid : Prop := fnFoldShiftUptoRow.holds Try.pinned (OpenSpec.upto fnFoldShiftSpec)

/-- 'laws.FnTransformSpot', WHERE WHAT IT READS IS OF BULK AT MOST 1048576: true; the input reads as it did. -/
def fnTransformSpotUptoRow : OpenClaim := { program := "ythlhojbbecioaaa", sum := "1b3403e553eaaa251678b1bc3299213d77cf7abe5637f55162fee573926c2b29", func := "loop.example/radiointerferometer/laws.FnTransformSpot", spec := "fnTransformSpot", apart := false, narrowed := true }
def FnTransformSpotUptoSaid : Prop := fnTransformSpotUptoRow.holds Try.pinned (OpenSpec.upto fnTransformSpotSpec)

/-- 'laws.FnFold', WHERE WHAT IT READS IS OF BULK AT MOST 1048576: true; the input reads as it did. -/
def fnFoldUptoRow : OpenClaim := { program := "ythlhojbbecioaaa", sum := "1b3403e553eaaa251678b1bc3299213d77cf7abe5637f55162fee573926c2b29", func := "loop.example/radiointerferometer/laws.FnFold", spec := "fnFold", apart := false, narrowed := true }
def FnFoldUptoSaid : Prop := fnFoldUptoRow.holds Try.pinned (OpenSpec.upto fnFoldSpec)

/-- 'laws.FnTransformConj', WHERE WHAT IT READS IS OF BULK AT MOST 1048576: true; the input reads as it did. -/
def fnTransformConjUptoRow : OpenClaim := { program := "ythlhojbbecioaaa", sum := "1b3403e553eaaa251678b1bc3299213d77cf7abe5637f55162fee573926c2b29", func := "loop.example/radiointerferometer/laws.FnTransformConj", spec := "fnTransformConj", apart := false, narrowed := true }
def FnTransformConjUptoSaid : Prop := fnTransformConjUptoRow.holds Try.pinned (OpenSpec.upto fnTransformConjSpec)

/-- 'laws.FnFoldSpot', WHERE WHAT IT READS IS OF BULK AT MOST 1048576: true; the input reads as it did. -/
def fnFoldSpotUptoRow : OpenClaim := { program := "ythlhojbbecioaaa", sum := "1b3403e553eaaa251678b1bc3299213d77cf7abe5637f55162fee573926c2b29", func := "loop.example/radiointerferometer/laws.FnFoldSpot", spec := "fnFoldSpot", apart := false, narrowed := true }
def FnFoldSpotUptoSaid : Prop := fnFoldSpotUptoRow.holds Try.pinned (OpenSpec.upto fnFoldSpotSpec)

/-- 'laws.FnExactSkyTransform', WHERE WHAT IT READS IS OF BULK AT MOST 1048576: true; the input reads as it did. -/
def fnExactSkyTransformUptoRow : OpenClaim := { program := "ythlhojbbecioaaa", sum := "1b3403e553eaaa251678b1bc3299213d77cf7abe5637f55162fee573926c2b29", func := "loop.example/radiointerferometer/laws.FnExactSkyTransform", spec := "fnExactSkyTransform", apart := false, narrowed := true }
def FnExactSkyTransformUptoSaid : Prop := fnExactSkyTransformUptoRow.holds Try.pinned (OpenSpec.upto fnExactSkyTransformSpec)

/-- 'laws.FnFoldAdd', WHERE WHAT IT READS IS OF BULK AT MOST 1048576: true; the input reads as it did. -/
def fnFoldAddUptoRow : OpenClaim := { program := "ythlhojbbecioaaa", sum := "1b3403e553eaaa251678b1bc3299213d77cf7abe5637f55162fee573926c2b29", func := "loop.example/radiointerferometer/laws.FnFoldAdd", spec := "fnFoldAdd", apart := false, narrowed := true }
def FnFoldAddUptoSaid : Prop := fnFoldAddUptoRow.holds Try.pinned (OpenSpec.upto fnFoldAddSpec)

end Rows
end Go.Proofs.Ythlhojbbecioaaa
