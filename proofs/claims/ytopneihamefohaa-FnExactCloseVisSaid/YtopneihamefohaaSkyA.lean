/-
  Contracts of the small functions on numbers, and of SkyValid and SkySum, of the program and of the reference.
-/
import Derived.Test.YtopneihamefohaaInts
import Derived.Test.YtopneihamefohaaSkyP
namespace Go.Proofs.Ytopneihamefohaa
set_option linter.unusedVariables false
open Go.RowKit

theorem l6In_any (n lo hi : Int) (w : World) : Calls Try.prog 46 #[.int .i64 n, .int .i64 lo, .int .i64 hi] w fun e w' => e = .returned (.bool (inB n lo hi)) ∧ w = w' := by
  by_cases h : lo ≤ n
  · go_enter Try.func46, Try.ntmps46
    go_wp2
    go_ret
    exact ⟨ret_bool (by simp [inB, h]), rfl⟩
  · go_enter Try.func46, Try.ntmps46
    go_wp2
    go_ret
    exact ⟨ret_bool (by simp [inB]; omega), rfl⟩

theorem tmod4 (k : Int) : (k.tmod 4 + 4) % 4 = k % 4 ∧ -4 < k.tmod 4 ∧ k.tmod 4 < 4 := by
  rcases Int.le_total 0 k with h | h
  · rw [Int.tmod_eq_emod_of_nonneg h]; omega
  · obtain ⟨m, rfl⟩ : ∃ m, k = -m := ⟨-k, by omega⟩
    rw [Int.neg_tmod, Int.tmod_eq_emod_of_nonneg (by omega)]
    omega

theorem l1Mod4_any (k : Int) (w : World) : Calls Try.prog 75 #[.int .i64 k, .int .i64 4] w fun e w' => e = .returned (.int .i64 (k % 4)) ∧ w = w' := by
  have h := tmod4 k
  obtain ⟨h1, h2, h3⟩ := h
  by_cases hn : k.tmod 4 < 0
  · have hf : k.tmod 4 + 4 = k % 4 := by omega
    have H := Lib.hid hf
    clear h1 hf
    go_enter Try.func75, Try.ntmps75
    go_wp2
    go_ret
    exact ⟨ret_int H.out, rfl⟩
  · have hf : k.tmod 4 = k % 4 := by omega
    have H := Lib.hid hf
    clear h1 hf
    go_enter Try.func75, Try.ntmps75
    go_wp2
    go_ret
    exact ⟨ret_int H.out, rfl⟩

theorem cel_int (x y : Int) : 4 * (y % 4) + x % 4 = ((cel x y : Nat) : Int) := by unfold cel; omega





theorem sm_bd5 {zs : List Int} (h : skyB zs = true) (k : Nat) (hk : k ≤ 16) : -1600000 ≤ sm (gi zs) k ∧ sm (gi zs) k ≤ 1600000 := by
  have := sm_bd (f := gi zs) (B := 100000) (n := k) (fun j _ => skyB_bd h j)
  omega


end Go.Proofs.Ytopneihamefohaa
