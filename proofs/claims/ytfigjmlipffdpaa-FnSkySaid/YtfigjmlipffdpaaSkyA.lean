/-
  Contracts of the small functions on numbers, and of SkyValid and SkySum, of the program and of the reference.
-/
import Derived.Test.YtfigjmlipffdpaaInts
import Derived.Test.YtfigjmlipffdpaaSkyP
namespace Go.Proofs.Ytfigjmlipffdpaa
set_option linter.unusedVariables false
open Go.RowKit

theorem l6In_any (n lo hi : Int) (w : World) : Calls Try.prog 42 #[.int .i64 n, .int .i64 lo, .int .i64 hi] w fun e w' => e = .returned (.bool (inB n lo hi)) ∧ w = w' := by
  by_cases h : lo ≤ n
  · go_enter Try.func42, Try.ntmps42
    go_wp2
    go_ret
    exact ⟨ret_bool (by simp [inB, h]), rfl⟩
  · go_enter Try.func42, Try.ntmps42
    go_wp2
    go_ret
    exact ⟨ret_bool (by simp [inB]; omega), rfl⟩
theorem l21Cells_any (w : World) : Calls Try.prog 43 #[] w fun e w' => e = .returned (.int .i64 16) ∧ w = w' := by
  go_enter Try.func43, Try.ntmps43
  go_wp2
  go_ret
  exact ⟨rfl, rfl⟩
theorem inRange_any (n lim : Int) (w : World) (h0 : 0 ≤ lim) (h1 : lim ≤ 1000000000000) : Calls Try.prog 52 #[.int .i64 n, .int .i64 lim] w fun e w' => e = .returned (.bool (inB n (-lim) lim)) ∧ w = w' := by
  by_cases h : -lim ≤ n
  · go_enter Try.func52, Try.ntmps52
    go_wp2
    go_ret
    exact ⟨ret_bool (by simp [inB, h]), rfl⟩
  · go_enter Try.func52, Try.ntmps52
    go_wp2
    go_ret
    exact ⟨ret_bool (by simp [inB]; omega), rfl⟩
theorem isSide_any (n : Int) (w : World) : Calls Try.prog 56 #[.int .i64 n] w fun e w' => e = .returned (.bool (sideB n)) ∧ w = w' := by
  by_cases h : 0 ≤ n
  · go_enter Try.func56, Try.ntmps56
    go_wp2
    go_ret
    exact ⟨ret_bool (by simp [sideB, inB, h]; omega), rfl⟩
  · go_enter Try.func56, Try.ntmps56
    go_wp2
    go_ret
    exact ⟨ret_bool (by simp [sideB, inB]; omega), rfl⟩

theorem tmod4 (k : Int) : (k.tmod 4 + 4) % 4 = k % 4 ∧ -4 < k.tmod 4 ∧ k.tmod 4 < 4 := by
  rcases Int.le_total 0 k with h | h
  · rw [Int.tmod_eq_emod_of_nonneg h]; omega
  · obtain ⟨m, rfl⟩ : ∃ m, k = -m := ⟨-k, by omega⟩
    rw [Int.neg_tmod, Int.tmod_eq_emod_of_nonneg (by omega)]
    omega

theorem circle_any (k : Int) (w : World) : Calls Try.prog 63 #[.int .i64 k, .int .i64 4] w fun e w' => e = .returned (.int .i64 (k % 4)) ∧ w = w' := by
  have h := tmod4 k
  obtain ⟨h1, h2, h3⟩ := h
  have H := Lib.hid h1
  clear h1
  have h4 : (0 : Int) ≤ k.tmod 4 + 4 := by omega
  go_enter Try.func63, Try.ntmps63
  go_wp2
  go_ret
  exact ⟨ret_int H.out, rfl⟩
theorem rest_any (k : Int) (w : World) : Calls Try.prog 41 #[.int .i64 k, .int .i64 4] w fun e w' => e = .returned (.int .i64 (k % 4)) ∧ w = w' := by
  have h := tmod4 k
  obtain ⟨h1, h2, h3⟩ := h
  have H := Lib.hid h1
  clear h1
  have h4 : (0 : Int) ≤ k.tmod 4 + 4 := by omega
  go_enter Try.func41, Try.ntmps41
  go_wp2
  go_ret
  exact ⟨ret_int H.out, rfl⟩
theorem l1Mod4_any (k : Int) (w : World) : Calls Try.prog 61 #[.int .i64 k, .int .i64 4] w fun e w' => e = .returned (.int .i64 (k % 4)) ∧ w = w' := by
  have h := tmod4 k
  obtain ⟨h1, h2, h3⟩ := h
  by_cases hn : k.tmod 4 < 0
  · have hf : k.tmod 4 + 4 = k % 4 := by omega
    have H := Lib.hid hf
    clear h1 hf
    go_enter Try.func61, Try.ntmps61
    go_wp2
    go_ret
    exact ⟨ret_int H.out, rfl⟩
  · have hf : k.tmod 4 = k % 4 := by omega
    have H := Lib.hid hf
    clear h1 hf
    go_enter Try.func61, Try.ntmps61
    go_wp2
    go_ret
    exact ⟨ret_int H.out, rfl⟩

theorem cel_int (x y : Int) : 4 * (y % 4) + x % 4 = ((cel x y : Nat) : Int) := by unfold cel; omega

theorem cellAt_any (x y : Int) (w : World) : Calls Try.prog 62 #[.int .i64 x, .int .i64 y] w fun e w' => e = .returned (.int .i64 ((cel x y : Nat) : Int)) ∧ w = w' := by
  have h1 : 0 ≤ x % 4 ∧ x % 4 < 4 := by omega
  have h2 : 0 ≤ y % 4 ∧ y % 4 < 4 := by omega
  obtain ⟨h1, h1'⟩ := h1
  obtain ⟨h2, h2'⟩ := h2
  go_enter Try.func62, Try.ntmps62
  go_wp2_with (go_at_call 63; refine (circle_any _ _).mono ?_; rintro e w' ⟨rfl, rfl⟩)
  go_ret
  exact ⟨ret_int (cel_int x y), rfl⟩
theorem l21At_any (x y : Int) (w : World) : Calls Try.prog 55 #[.int .i64 x, .int .i64 y] w fun e w' => e = .returned (.int .i64 ((cel x y : Nat) : Int)) ∧ w = w' := by
  have h1 : 0 ≤ x % 4 ∧ x % 4 < 4 := by omega
  have h2 : 0 ≤ y % 4 ∧ y % 4 < 4 := by omega
  obtain ⟨h1, h1'⟩ := h1
  obtain ⟨h2, h2'⟩ := h2
  go_enter Try.func55, Try.ntmps55
  go_wp2_with (go_at_call 61; refine (l1Mod4_any _ _).mono ?_; rintro e w' ⟨rfl, rfl⟩)
  go_ret
  exact ⟨ret_int (cel_int x y), rfl⟩
theorem lawCellAt_any (x y : Int) (w : World) : Calls Try.prog 40 #[.int .i64 x, .int .i64 y] w fun e w' => e = .returned (.int .i64 ((cel x y : Nat) : Int)) ∧ w = w' := by
  have h1 : 0 ≤ x % 4 ∧ x % 4 < 4 := by omega
  have h2 : 0 ≤ y % 4 ∧ y % 4 < 4 := by omega
  obtain ⟨h1, h1'⟩ := h1
  obtain ⟨h2, h2'⟩ := h2
  go_enter Try.func40, Try.ntmps40
  go_wp2_with (go_at_call 41; refine (rest_any _ _).mono ?_; rintro e w' ⟨rfl, rfl⟩)
  go_ret
  exact ⟨ret_int (cel_int x y), rfl⟩

set_option maxHeartbeats 400000 in
theorem allInRange_any (A : Option Addr) (c : Nat) (zs : List Int) (lim : Int) (w : World) (h : Rd w A (ints zs)) (hl : zs.length ≤ 1048592) (h0 : 0 ≤ lim) (h1 : lim ≤ 1000000000000) {n : Nat} (hn : zs.length = n) :
    Calls Try.prog 44 #[.slice A n c, .int .i64 lim] w fun e w' => e = .returned (.bool (allB zs lim)) ∧ w = w' := by
  subst hn
  go_enter Try.func44, Try.ntmps44
  go_wp2
  go_loop [9] (fun i => ∃ k : Nat, k ≤ zs.length ∧ i = .int .i64 k ∧ InTo zs lim k) (fun i => zs.length - (intOf i).toNat)
  case atStart => exact ⟨0, Nat.zero_le _, rfl, InTo.zero _ _⟩
  case round =>
    obtain ⟨k, hk, rfl, hin⟩ := hrel
    by_cases hlt : k < zs.length
    · obtain ⟨b, off, rfl, hb, hc⟩ := h.int_at hlt
      cases hi : inB (gi zs k) (-lim) lim with
      | true =>
        have hs := hin.step hi
        go_wp2_with (go_at_call 52; refine (inRange_any _ _ _ h0 h1).mono ?_; rintro e w' ⟨rfl, rfl⟩)
        go_round
        case rel => exact ⟨k + 1, by omega, by go_num, hs⟩
        case measure => simp [intOf]; omega
      | false =>
        have hs := allB_not hlt hi
        go_wp2_with (go_at_call 52; refine (inRange_any _ _ _ h0 h1).mono ?_; rintro e w' ⟨rfl, rfl⟩)
        go_ret
        exact ⟨ret_bool hs.symm, rfl⟩
    · obtain rfl : k = zs.length := by omega
      have hs := Lib.hid hin.all
      go_wp2
      go_ret
      exact ⟨ret_bool hs.out.symm, rfl⟩

theorem SkyValid_any (A : Option Addr) (c : Nat) (zs : List Int) (w : World) (h : Rd w A (ints zs)) (hl : zs.length ≤ 1048592) {n : Nat} (hn : zs.length = n) :
    Calls Try.prog 17 #[.slice A n c] w fun e w' => e = .returned (.bool (skyB zs)) ∧ w = w' := by
  subst hn
  by_cases hz : zs.length = 16
  · have hb : (((zs.length : Nat) : Int) == 16) = true := by simp; omega
    have HZ := Lib.hid hz
    clear hz
    go_enter Try.func17, Try.ntmps17
    go_wp2_with (go_at_call 44; refine (allInRange_any _ _ _ _ _ h hl (by omega) (by omega) rfl).mono ?_; rintro e w' ⟨rfl, rfl⟩)
    go_ret
    exact ⟨ret_bool (by simp [skyB, HZ.out]), rfl⟩
  · have hb : (((zs.length : Nat) : Int) == 16) = false := by simp; omega
    go_enter Try.func17, Try.ntmps17
    go_wp2
    go_ret
    exact ⟨ret_bool (by simp [skyB, hz]), rfl⟩

set_option maxHeartbeats 400000 in
theorem sSkyValid_any (A : Option Addr) (c : Nat) (zs : List Int) (w : World) (h : Rd w A (ints zs)) (hl : zs.length ≤ 1048592) {n : Nat} (hn : zs.length = n) :
    Calls Try.prog 15 #[.slice A n c] w fun e w' => e = .returned (.bool (skyB zs)) ∧ w = w' := by
  subst hn
  go_enter Try.func15, Try.ntmps15
  go_wp2
  go_loop [3] (fun i => ∃ k : Nat, k ≤ zs.length ∧ i = .int .i64 k ∧ InTo zs 100000 k) (fun i => zs.length - (intOf i).toNat)
  case atStart => exact ⟨0, Nat.zero_le _, rfl, InTo.zero _ _⟩
  case round =>
    obtain ⟨k, hk, rfl, hin⟩ := hrel
    by_cases hlt : k < zs.length
    · obtain ⟨b, off, rfl, hb, hc⟩ := h.int_at hlt
      cases hi : inB (gi zs k) (-100000) 100000 with
      | true =>
        have hs := hin.step hi
        go_wp2_with (go_at_call 42; refine (l6In_any _ _ _ _).mono ?_; rintro e w' ⟨rfl, rfl⟩)
        go_round
        case rel => exact ⟨k + 1, by omega, by go_num, hs⟩
        case measure => simp [intOf]; omega
      | false =>
        have hs := allB_not hlt hi
        go_wp2_with (go_at_call 42; refine (l6In_any _ _ _ _).mono ?_; rintro e w' ⟨rfl, rfl⟩)
        go_ret
        exact ⟨ret_bool (by simp [skyB, hs]), rfl⟩
    · obtain rfl : k = zs.length := by omega
      have hs := Lib.hid hin.all
      go_wp2
      go_ret
      exact ⟨ret_bool (by rw [Bool.eq_iff_iff]; simp [skyB, hs.out]; omega), rfl⟩

theorem sm_bd5 {zs : List Int} (h : skyB zs = true) (k : Nat) (hk : k ≤ 16) : -1600000 ≤ sm (gi zs) k ∧ sm (gi zs) k ≤ 1600000 := by
  have := sm_bd (f := gi zs) (B := 100000) (n := k) (fun j _ => skyB_bd h j)
  omega

set_option maxHeartbeats 400000 in
theorem SkySum_any (A : Option Addr) (c : Nat) (zs : List Int) (w : World) (h : Rd w A (ints zs)) (hl : zs.length ≤ 1048592) {n : Nat} (hn : zs.length = n) :
    Calls Try.prog 20 #[.slice A n c] w fun e w' => e = .returned (.tuple #[.int .i64 (skySum zs).1, .bool (skySum zs).2]) ∧ w = w' := by
  subst hn
  cases hv : skyB zs with
  | false =>
    have hf : skySum zs = (0, false) := by simp [skySum, hv]
    rw [hf]
    clear hf
    go_enter Try.func20, Try.ntmps20
    go_wp2_with (go_at_call 17; refine (SkyValid_any _ _ _ _ h hl rfl).mono ?_; rintro e w' ⟨rfl, rfl⟩)
    go_ret2
    exact ⟨rfl, rfl⟩
  | true =>
    have hf : skySum zs = (sm (gi zs) 16, true) := by simp [skySum, hv]
    rw [hf]
    clear hf
    have hz := Lib.hid (skyB_len hv)
    go_enter Try.func20, Try.ntmps20
    go_wp2_with (go_at_call 17; refine (SkyValid_any _ _ _ _ h hl rfl).mono ?_; rintro e w' ⟨rfl, rfl⟩)
    go_loop [4, 12] (fun t i => ∃ k : Nat, k ≤ zs.length ∧ i = .int .i64 k ∧ t = .int .i64 (sm (gi zs) k)) (fun _ i => zs.length - (intOf i).toNat)
    case atStart => exact ⟨0, Nat.zero_le _, rfl, rfl⟩
    case round =>
      obtain ⟨k, hk, rfl, rfl⟩ := hrel
      have hk16 : k ≤ 16 := by have := hz.out; omega
      obtain ⟨b1, b2⟩ := sm_bd5 hv k hk16
      obtain ⟨b3, b4⟩ := skyB_bd hv k
      by_cases hlt : k < zs.length
      · obtain ⟨b, off, rfl, hb, hc⟩ := h.int_at hlt
        go_wp2
        go_round
        case rel => exact ⟨k + 1, by omega, by go_num, rfl⟩
        case measure => simp [intOf]; omega
      · obtain rfl : k = 16 := by have := hz.out; omega
        go_wp2
        go_ret2
        exact ⟨rfl, rfl⟩

set_option maxHeartbeats 400000 in
theorem sSkySum_any (A : Option Addr) (c : Nat) (zs : List Int) (w : World) (h : Rd w A (ints zs)) (hl : zs.length ≤ 1048592) {n : Nat} (hn : zs.length = n) :
    Calls Try.prog 19 #[.slice A n c] w fun e w' => e = .returned (.tuple #[.int .i64 (skySum zs).1, .bool (skySum zs).2]) ∧ w = w' := by
  subst hn
  cases hv : skyB zs with
  | false =>
    have hf : skySum zs = (0, false) := by simp [skySum, hv]
    rw [hf]
    clear hf
    go_enter Try.func19, Try.ntmps19
    go_wp2_with (go_at_call 15; refine (sSkyValid_any _ _ _ _ h hl rfl).mono ?_; rintro e w' ⟨rfl, rfl⟩)
    go_ret2
    exact ⟨rfl, rfl⟩
  | true =>
    have hf : skySum zs = (sm (gi zs) 16, true) := by simp [skySum, hv]
    rw [hf]
    clear hf
    have hz := Lib.hid (skyB_len hv)
    go_enter Try.func19, Try.ntmps19
    go_wp2_with (go_at_call 15; refine (sSkyValid_any _ _ _ _ h hl rfl).mono ?_; rintro e w' ⟨rfl, rfl⟩)
    go_loop [4, 5] (fun t i => ∃ k : Nat, k ≤ 16 ∧ i = .int .i64 k ∧ t = .int .i64 (sm (gi zs) k)) (fun _ i => 16 - (intOf i).toNat)
    case atStart => exact ⟨0, Nat.zero_le _, rfl, rfl⟩
    case round =>
      obtain ⟨k, hk, rfl, rfl⟩ := hrel
      obtain ⟨b1, b2⟩ := sm_bd5 hv k hk
      obtain ⟨b3, b4⟩ := skyB_bd hv k
      by_cases hlt : k < 16
      · have hlt2 : k < zs.length := by have := hz.out; omega
        obtain ⟨b, off, rfl, hb, hc⟩ := h.int_at hlt2
        go_wp2_with (go_at_call 43; refine (l21Cells_any _).mono ?_; rintro e w' ⟨rfl, rfl⟩)
        go_round
        case rel => exact ⟨k + 1, by omega, by go_num, rfl⟩
        case measure => simp [intOf]; omega
      · obtain rfl : k = 16 := by omega
        go_wp2_with (go_at_call 43; refine (l21Cells_any _).mono ?_; rintro e w' ⟨rfl, rfl⟩)
        go_ret2
        exact ⟨rfl, rfl⟩
end Go.Proofs.Ytfigjmlipffdpaa
