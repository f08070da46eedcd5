/-
  Contracts of GainJoin, of the program and of the reference, of GainTurn and of the laws' own 'ones'.
-/
import Derived.Test.YtpdekpeknnlfmaaVisA
import Derived.Deep.RegionHeld3
import Derived.Deep.DrawnRows
namespace Go.Proofs.Ytpdekpeknnlfmaa
set_option linter.unusedVariables false
open Go.RowKit
attribute [local go_sem ↓] Go.wp_at_zero Go.wp_at_succ

theorem kc4 {w : World} {q1 o1 q2 o2 k : Nat} {a b : List (Int × Int)} (ha : Rd w (some ⟨q1, o1, none⟩) (pairs a)) (hb : Rd w (some ⟨q2, o2, none⟩) (pairs b)) (hka : k < a.length) (hkb : k < b.length) :
    ∀ w' : World, Below w.heap.size w w' → w'.cell? ⟨q1, o1 + k * 2, none⟩ = some (.int .i64 (g1 a k)) ∧ w'.cell? ⟨q1, o1 + k * 2 + 1, none⟩ = some (.int .i64 (g2 a k)) ∧ w'.cell? ⟨q2, o2 + k * 2, none⟩ = some (.int .i64 (g1 b k)) ∧ w'.cell? ⟨q2, o2 + k * 2 + 1, none⟩ = some (.int .i64 (g2 b k)) := by
  intro w' h
  obtain ⟨x1, y1, e1, _, c1, d1⟩ := (ha.below h (Nat.le_refl _)).pair_at hka
  obtain ⟨x2, y2, e2, _, c2, d2⟩ := (hb.below h (Nat.le_refl _)).pair_at hkb
  cases e1
  cases e2
  exact ⟨c1, d1, c2, d2⟩
theorem quiet_below {w w1 w2 : World} (h : Below w.heap.size w w1) (k : Below w1.heap.size w1 w2) : Below w.heap.size w w2 := bel_trans h k



end Go.Proofs.Ytpdekpeknnlfmaa
