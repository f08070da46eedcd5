/-
  Contracts of CloseMany, of the program and of the reference.
-/
import Derived.Test.YtopneihamefohaaVisA
import Derived.Test.YtopneihamefohaaDraw
namespace Go.Proofs.Ytopneihamefohaa
set_option linter.unusedVariables false
open Go.RowKit

def cm (n : Int) : Int := if inB n 3 7 then (n - 1) * (n - 2) / 2 else 0
theorem three_seven {n : Int} (h : inB n 3 7 = true) : n = 3 ∨ n = 4 ∨ n = 5 ∨ n = 6 ∨ n = 7 := by
  have := inB_true h; omega
theorem cm_no {n : Int} (h : inB n 3 7 = false) : cm n = 0 := by simp [cm, h]
theorem CloseMany_any (n : Int) (w : World) : Calls Try.prog 16 #[.int .i64 n] w fun e w' => e = .returned (.int .i64 (cm n)) ∧ w = w' := by
  cases h : inB n 3 7 with
  | false =>
    rw [cm_no h]
    have hn := inB_false h
    by_cases h3 : n < 3
    · go_enter Try.func16, Try.ntmps16
      go_wp2
      go_ret
      exact ⟨rfl, rfl⟩
    · have h7 : 7 < n := by omega
      go_enter Try.func16, Try.ntmps16
      go_wp2
      go_ret
      exact ⟨rfl, rfl⟩
  | true =>
    rcases three_seven h with rfl | rfl | rfl | rfl | rfl
    all_goals
      go_enter Try.func16, Try.ntmps16
      go_wp2
      go_ret
      exact ⟨rfl, rfl⟩
theorem sCloseMany_any (n : Int) (w : World) : Calls Try.prog 15 #[.int .i64 n] w fun e w' => e = .returned (.int .i64 (cm n)) ∧ w = w' := by
  cases h : inB n 3 7 with
  | false =>
    rw [cm_no h]
    go_enter Try.func15, Try.ntmps15
    go_wp2_with fail
    refine (l6In_any _ _ _ _).mono ?_; rintro e w' ⟨rfl, rfl⟩
    rw [h]
    go_wp2
    go_ret
    exact ⟨rfl, rfl⟩
  | true =>
    rcases three_seven h with rfl | rfl | rfl | rfl | rfl
    all_goals
      go_enter Try.func15, Try.ntmps15
      go_wp2_with fail
      refine (l6In_any _ _ _ _).mono ?_; rintro e w' ⟨rfl, rfl⟩
      rw [h]
      go_wp2
      go_ret
      exact ⟨rfl, rfl⟩
theorem DrawCloseMany_any (A : Option Addr) (n c : Nat) (w : World) (h : Bytes w A n w.heap.size) (hc : n ≤ c) : Calls Try.prog 17 #[.slice A n c] w fun e w' => ∃ v : Int, e = .returned (.int .i64 v) ∧ 0 ≤ v ∧ v < 10 ∧ Below w.heap.size w w' := by
  go_enter Try.func17, Try.ntmps17
  go_wp2_with fail
  refine (l6Open_any _ _ _ _ h hc).mono ?_
  rintro e w1 ⟨rfl, hr, hb⟩
  go_wp2_with fail
  refine (pick_any _ _ 10 _ hr (by omega) (by omega)).mono ?_
  rintro e w2 ⟨x, rfl, x0, x1, hr2, ho2, hs2⟩
  have x2 := x1 (by omega)
  have B := ho2.below hb (Nat.le_refl _) (Nat.le_refl _)
  clear x1 hs2 ho2 hb
  go_wp2
  go_ret
  exact ⟨x, rfl, x0, x2, B⟩
theorem cm_bm {n : Int} (h : ¬ cm n = 0) : cm n = bm n - (n - 1) ∧ 1 ≤ cm n ∧ cm n ≤ 15 ∧ 0 ≤ bm n ∧ bm n ≤ 21 ∧ 3 ≤ n ∧ n ≤ 7 := by
  cases h3 : inB n 3 7 with
  | false => exact absurd (cm_no h3) h
  | true => rcases three_seven h3 with rfl | rfl | rfl | rfl | rfl <;> decide
end Go.Proofs.Ytopneihamefohaa
