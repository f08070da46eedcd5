/-
  Contracts of the small functions on antennas and phases, and of what tells valid lists, of the program and of the reference.
-/
import Derived.Test.YtopneihamefohaaVisP
import Derived.Test.YtopneihamefohaaSkyA
import Derived.Test.YtopneihamefohaaVisS
namespace Go.Proofs.Ytopneihamefohaa
set_option linter.unusedVariables false
open Go.RowKit

theorem two_seven {n : Int} (h : manyB n = true) : n = 2 ∨ n = 3 ∨ n = 4 ∨ n = 5 ∨ n = 6 ∨ n = 7 := by
  have := inB_true h; omega
theorem tmod360 (k : Int) : (k.tmod 360 < 0 → k.tmod 360 + 360 = k % 360) ∧ (¬ k.tmod 360 < 0 → k.tmod 360 = k % 360) ∧ -360 < k.tmod 360 ∧ k.tmod 360 < 360 := by
  rcases Int.le_total 0 k with h | h
  · rw [Int.tmod_eq_emod_of_nonneg h]; omega
  · obtain ⟨m, rfl⟩ : ∃ m, k = -m := ⟨-k, by omega⟩
    rw [Int.neg_tmod, Int.tmod_eq_emod_of_nonneg (by omega)]
    omega

theorem isMany_any (n : Int) (w : World) : Calls Try.prog 49 #[.int .i64 n] w fun e w' => e = .returned (.bool (manyB n)) ∧ w = w' := by
  by_cases h : 2 ≤ n
  · go_enter Try.func49, Try.ntmps49
    go_wp2
    go_ret
    exact ⟨ret_bool (by simp [manyB, inB, h]), rfl⟩
  · go_enter Try.func49, Try.ntmps49
    go_wp2
    go_ret
    exact ⟨ret_bool (by simp [manyB, inB]; omega), rfl⟩
theorem isPhase_any (n : Int) (w : World) : Calls Try.prog 76 #[.int .i64 n] w fun e w' => e = .returned (.bool (phB n)) ∧ w = w' := by
  by_cases h : 0 ≤ n
  · go_enter Try.func76, Try.ntmps76
    go_wp2
    go_ret
    exact ⟨ret_bool (by rw [Bool.eq_iff_iff]; simp [phB, inB, h]; omega), rfl⟩
  · go_enter Try.func76, Try.ntmps76
    go_wp2
    go_ret
    exact ⟨ret_bool (by simp [phB, inB]; omega), rfl⟩
theorem l2Phase_any (n : Int) (w : World) : Calls Try.prog 69 #[.int .i64 n] w fun e w' => e = .returned (.bool (phB n)) ∧ w = w' := by
  go_enter Try.func69, Try.ntmps69
  go_wp2_with fail
  refine (l6In_any _ _ _ _).mono ?_; rintro e w' ⟨rfl, rfl⟩
  go_wp2
  go_ret
  exact ⟨rfl, rfl⟩
/-- whether there is an antenna -/
def antB (n i : Int) : Bool := inB i 0 (n - 1)
theorem isAnt_any (n i : Int) (w : World) : Calls Try.prog 56 #[.int .i64 n, .int .i64 i] w fun e w' => e = .returned (.bool (antB n i)) ∧ w = w' := by
  by_cases h : 0 ≤ i
  · go_enter Try.func56, Try.ntmps56
    go_wp2
    go_ret
    exact ⟨ret_bool (by rw [Bool.eq_iff_iff]; simp [antB, inB, h]; omega), rfl⟩
  · go_enter Try.func56, Try.ntmps56
    go_wp2
    go_ret
    exact ⟨ret_bool (by simp [antB, inB]; omega), rfl⟩
theorem BaseMany_any (n : Int) (w : World) : Calls Try.prog 18 #[.int .i64 n] w fun e w' => e = .returned (.int .i64 (bm n)) ∧ w = w' := by
  cases h : manyB n with
  | false =>
    rw [bm_no h]
    go_enter Try.func18, Try.ntmps18
    go_wp2_with fail
    refine (isMany_any _ _).mono ?_; rintro e w' ⟨rfl, rfl⟩
    rw [h]
    go_wp2
    go_ret
    exact ⟨rfl, rfl⟩
  | true =>
    rcases two_seven h with rfl | rfl | rfl | rfl | rfl | rfl
    all_goals
      go_enter Try.func18, Try.ntmps18
      go_wp2_with fail
      refine (isMany_any _ _).mono ?_; rintro e w' ⟨rfl, rfl⟩
      rw [show manyB _ = true from h]
      go_wp2
      go_ret
      exact ⟨rfl, rfl⟩
theorem sBaseMany_any (n : Int) (w : World) : Calls Try.prog 67 #[.int .i64 n] w fun e w' => e = .returned (.int .i64 (bm n)) ∧ w = w' := by
  cases h : manyB n with
  | false =>
    have hm : inB n 2 7 = false := h
    rw [bm_no h]
    go_enter Try.func67, Try.ntmps67
    go_wp2_with fail
    refine (l6In_any _ _ _ _).mono ?_; rintro e w' ⟨rfl, rfl⟩
    rw [hm]
    go_wp2
    go_ret
    exact ⟨rfl, rfl⟩
  | true =>
    rcases two_seven h with rfl | rfl | rfl | rfl | rfl | rfl
    all_goals
      go_enter Try.func67, Try.ntmps67
      go_wp2_with fail
      refine (l6In_any _ _ _ _).mono ?_; rintro e w' ⟨rfl, rfl⟩
      rw [show inB _ 2 7 = true from h]
      go_wp2
      go_ret
      exact ⟨rfl, rfl⟩

theorem PhaseOf_any (k : Int) (w : World) : Calls Try.prog 39 #[.int .i64 k] w fun e w' => e = .returned (.int .i64 (k % 360)) ∧ w = w' := by
  obtain ⟨h1, h2, h3, h4⟩ := tmod360 k
  by_cases hn : k.tmod 360 < 0
  · have H := Lib.hid (h1 hn)
    clear h1 h2
    go_enter Try.func39, Try.ntmps39
    go_wp2
    go_ret
    exact ⟨ret_int H.out, rfl⟩
  · have H := Lib.hid (h2 hn)
    clear h1 h2
    go_enter Try.func39, Try.ntmps39
    go_wp2
    go_ret
    exact ⟨ret_int H.out, rfl⟩
theorem quiet_phase (k : Int) : ∀ (w : World) {n : Nat}, Calls Try.prog 39 #[.int .i64 k] (w.drewN n) fun e w'' => e = .returned (.int .i64 (k % 360)) ∧ ∃ m, w'' = w.drewN m :=
  fun w n => (PhaseOf_any k (w.drewN n)).mono fun _ _ ⟨he, hw⟩ => ⟨he, n, hw.symm⟩
theorem still_phase (k : Int) : ∀ w : World, Calls Try.prog 39 #[.int .i64 k] w fun e w' => e = .returned (.int .i64 (k % 360)) ∧ w' = w :=
  fun w => (PhaseOf_any k w).mono fun _ _ ⟨he, hw⟩ => ⟨he, hw.symm⟩
theorem l1Mod360_any (k : Int) (w : World) : Calls Try.prog 75 #[.int .i64 k, .int .i64 360] w fun e w' => e = .returned (.int .i64 (k % 360)) ∧ w = w' := by
  obtain ⟨h1, h2, h3, h4⟩ := tmod360 k
  by_cases hn : k.tmod 360 < 0
  · have H := Lib.hid (h1 hn)
    clear h1 h2
    go_enter Try.func75, Try.ntmps75
    go_wp2
    go_ret
    exact ⟨ret_int H.out, rfl⟩
  · have H := Lib.hid (h2 hn)
    clear h1 h2
    go_enter Try.func75, Try.ntmps75
    go_wp2
    go_ret
    exact ⟨ret_int H.out, rfl⟩
theorem sPhaseOf_any (k : Int) (w : World) : Calls Try.prog 70 #[.int .i64 k] w fun e w' => e = .returned (.int .i64 (k % 360)) ∧ w = w' := by
  go_enter Try.func70, Try.ntmps70
  go_wp2_with fail
  refine (l1Mod360_any _ _).mono ?_; rintro e w' ⟨rfl, rfl⟩
  go_wp2
  go_ret
  exact ⟨rfl, rfl⟩
theorem still_sphase (k : Int) : ∀ w : World, Calls Try.prog 70 #[.int .i64 k] w fun e w' => e = .returned (.int .i64 (k % 360)) ∧ w' = w :=
  fun w => (sPhaseOf_any k w).mono fun _ _ ⟨he, hw⟩ => ⟨he, hw.symm⟩

set_option maxHeartbeats 800000 in
theorem visInRange_any (A : Option Addr) (c : Nat) (ps : List (Int × Int)) (lim : Int) (w : World) (h : Rd w A (pairs ps)) (hl : ps.length ≤ 1048592) {n : Nat} (hn : ps.length = n) :
    Calls Try.prog 71 #[.slice A n c, .int .i64 lim] w fun e w' => e = .returned (.bool (allV ps lim)) ∧ Below w.heap.size w w' := by
  subst hn
  go_enter Try.func71, Try.ntmps71
  go_wp2
  go_loopw [9] (fun i wr => ∃ k : Nat, k ≤ ps.length ∧ i = .int .i64 k ∧ Below w.heap.size w wr ∧ VisTo ps lim k) (fun i _ => ps.length - (intOf i).toNat)
  case atStart => exact ⟨0, Nat.zero_le _, rfl, Below.refl _ _, VisTo.zero _ _⟩
  case round =>
    obtain ⟨k, hk, rfl, hb, hv⟩ := hrel
    by_cases hlt : k < ps.length
    · obtain ⟨b, off, rfl, hbl, hc1, hc2⟩ := (h.below hb (Nat.le_refl _)).pair_at hlt
      have HB := Lib.hid (hb.alloc hb.size (.cells #[.int .i64 (g1 ps k), .int .i64 (g2 ps k)] 44))
      by_cases a1 : g1 ps k < 1
      · have hs := allV_not hlt (show visOk lim (g1 ps k) (g2 ps k) = false by simp [visOk, inB]; omega)
        have HS := Lib.hid hs
        clear hs
        go_wp2
        go_ret
        exact ⟨ret_bool HS.out.symm, HB.out⟩
      by_cases a2 : lim < g1 ps k
      · have hs := allV_not hlt (show visOk lim (g1 ps k) (g2 ps k) = false by simp [visOk, inB]; omega)
        have HS := Lib.hid hs
        clear hs
        go_wp2
        go_ret
        exact ⟨ret_bool HS.out.symm, HB.out⟩
      cases a3 : phB (g2 ps k) with
      | false =>
        have hs := allV_not hlt (show visOk lim (g1 ps k) (g2 ps k) = false by simp [visOk, a3])
        have HS := Lib.hid hs
        clear hs
        go_wp2_with (go_at_call 76; refine (isPhase_any _ _).mono ?_; rintro e w' ⟨rfl, rfl⟩)
        go_ret
        exact ⟨ret_bool HS.out.symm, HB.out⟩
      | true =>
        have hs := hv.step (show visOk lim (g1 ps k) (g2 ps k) = true by simp [visOk, a3, inB]; omega)
        have HS := Lib.hid hs
        clear hs
        go_wp2_with (go_at_call 76; refine (isPhase_any _ _).mono ?_; rintro e w' ⟨rfl, rfl⟩)
        go_roundw
        case rel => exact ⟨k + 1, by omega, by go_num, HB.out, HS.out⟩
        case measure => simp [intOf]; omega
    · obtain rfl : k = ps.length := by omega
      have hs := Lib.hid hv.all
      go_wp2
      go_ret
      exact ⟨ret_bool hs.out.symm, hb⟩

set_option maxHeartbeats 400000 in
theorem VisValid_any (n : Int) (A : Option Addr) (c : Nat) (ps : List (Int × Int)) (w : World) (h : Rd w A (pairs ps)) (hl : ps.length ≤ 1048592) {m : Nat} (hm : ps.length = m) :
    Calls Try.prog 60 #[.int .i64 n, .slice A m c] w fun e w' => e = .returned (.bool (visB n ps)) ∧ Below w.heap.size w w' := by
  subst hm
  cases h1 : manyB n with
  | false =>
    go_enter Try.func60, Try.ntmps60
    go_wp2_with (go_at_call 49; refine (isMany_any _ _).mono ?_; rintro e w' ⟨rfl, rfl⟩)
    go_ret
    exact ⟨ret_bool (by simp [visB, h1]), Below.refl _ _⟩
  | true =>
    by_cases h2 : (ps.length : Int) = bm n
    · have hb : (((ps.length : Nat) : Int) == bm n) = true := by simpa using h2
      have H2 := Lib.hid h2
      clear h2
      go_enter Try.func60, Try.ntmps60
      go_wp2_with (first | (go_at_call 49; refine (isMany_any _ _).mono ?_; rintro e w' ⟨rfl, rfl⟩) | (go_at_call 18; refine (BaseMany_any _ _).mono ?_; rintro e w' ⟨rfl, rfl⟩) | (go_at_call 71; refine (visInRange_any _ _ _ _ _ h hl rfl).mono ?_; rintro e w1 ⟨rfl, b1⟩))
      go_ret
      exact ⟨ret_bool (by simp [visB, h1, H2.out]), b1⟩
    · have hb : (((ps.length : Nat) : Int) == bm n) = false := by simpa using h2
      have H2 := Lib.hid h2
      clear h2
      go_enter Try.func60, Try.ntmps60
      go_wp2_with (first | (go_at_call 49; refine (isMany_any _ _).mono ?_; rintro e w' ⟨rfl, rfl⟩) | (go_at_call 18; refine (BaseMany_any _ _).mono ?_; rintro e w' ⟨rfl, rfl⟩))
      go_ret
      exact ⟨ret_bool (by simp [visB, h1, H2.out]), Below.refl _ _⟩
set_option maxHeartbeats 800000 in
theorem sVisValid_any (n : Int) (A : Option Addr) (c : Nat) (ps : List (Int × Int)) (w : World) (h : Rd w A (pairs ps)) (hl : ps.length ≤ 1048592) {m : Nat} (hm : ps.length = m) :
    Calls Try.prog 57 #[.int .i64 n, .slice A m c] w fun e w' => e = .returned (.bool (visB n ps)) ∧ w = w' := by
  subst hm
  cases h1 : manyB n with
  | false =>
    have e0 := bm_no h1
    go_enter Try.func57, Try.ntmps57
    go_wp2_with (first | (go_at_call 67; refine (sBaseMany_any _ _).mono ?_; rintro e w' ⟨rfl, rfl⟩) | (go_at_call 46; refine (l6In_any _ _ _ _).mono ?_; rintro e w' ⟨rfl, rfl⟩) | (go_at_call 69; refine (l2Phase_any _ _).mono ?_; rintro e w' ⟨rfl, rfl⟩))
    go_ret
    exact ⟨ret_bool (by simp [visB, h1]), rfl⟩
  | true =>
    have hy := bm_yes h1
    have e0 : (bm n == 0) = false := by simp; omega
    obtain ⟨hy1, hy2⟩ := hy
    by_cases h2 : (ps.length : Int) = bm n
    · have hb : (((ps.length : Nat) : Int) != bm n) = false := by simpa using h2
      have H2 := Lib.hid h2
      clear h2
      go_enter Try.func57, Try.ntmps57
      go_wp2_with (first | (go_at_call 67; refine (sBaseMany_any _ _).mono ?_; rintro e w' ⟨rfl, rfl⟩) | (go_at_call 46; refine (l6In_any _ _ _ _).mono ?_; rintro e w' ⟨rfl, rfl⟩) | (go_at_call 69; refine (l2Phase_any _ _).mono ?_; rintro e w' ⟨rfl, rfl⟩))
      go_loop [5] (fun i => ∃ k : Nat, k ≤ ps.length ∧ i = .int .i64 k ∧ VisTo ps 1000000 k) (fun i => ps.length - (intOf i).toNat)
      case atStart => exact ⟨0, Nat.zero_le _, rfl, VisTo.zero _ _⟩
      case round =>
        obtain ⟨k, hk, rfl, hv⟩ := hrel
        by_cases hlt : k < ps.length
        · obtain ⟨b, off, rfl, hbl, hc1, hc2⟩ := h.pair_at hlt
          cases a1 : inB (g1 ps k) 1 1000000 with
          | false =>
            have HS := Lib.hid (allV_not hlt (show visOk 1000000 (g1 ps k) (g2 ps k) = false by simp [visOk, a1]))
            go_wp2_with (first | (go_at_call 67; refine (sBaseMany_any _ _).mono ?_; rintro e w' ⟨rfl, rfl⟩) | (go_at_call 46; refine (l6In_any _ _ _ _).mono ?_; rintro e w' ⟨rfl, rfl⟩) | (go_at_call 69; refine (l2Phase_any _ _).mono ?_; rintro e w' ⟨rfl, rfl⟩))
            go_ret
            exact ⟨ret_bool (by simp [visB, HS.out]), rfl⟩
          | true =>
          cases a3 : phB (g2 ps k) with
          | false =>
            have HS := Lib.hid (allV_not hlt (show visOk 1000000 (g1 ps k) (g2 ps k) = false by simp [visOk, a3]))
            go_wp2_with (first | (go_at_call 67; refine (sBaseMany_any _ _).mono ?_; rintro e w' ⟨rfl, rfl⟩) | (go_at_call 46; refine (l6In_any _ _ _ _).mono ?_; rintro e w' ⟨rfl, rfl⟩) | (go_at_call 69; refine (l2Phase_any _ _).mono ?_; rintro e w' ⟨rfl, rfl⟩))
            go_ret
            exact ⟨ret_bool (by simp [visB, HS.out]), rfl⟩
          | true =>
            have HS := Lib.hid (hv.step (show visOk 1000000 (g1 ps k) (g2 ps k) = true by simp [visOk, a1, a3]))
            go_wp2_with (first | (go_at_call 67; refine (sBaseMany_any _ _).mono ?_; rintro e w' ⟨rfl, rfl⟩) | (go_at_call 46; refine (l6In_any _ _ _ _).mono ?_; rintro e w' ⟨rfl, rfl⟩) | (go_at_call 69; refine (l2Phase_any _ _).mono ?_; rintro e w' ⟨rfl, rfl⟩))
            go_round
            case rel => exact ⟨k + 1, by omega, by go_num, HS.out⟩
            case measure => simp [intOf]; omega
        · obtain rfl : k = ps.length := by omega
          have hs := Lib.hid hv.all
          go_wp2
          go_ret
          exact ⟨ret_bool (by simp [visB, h1, H2.out, hs.out]), rfl⟩
    · have hb : (((ps.length : Nat) : Int) != bm n) = true := by simpa using h2
      have H2 := Lib.hid h2
      clear h2
      go_enter Try.func57, Try.ntmps57
      go_wp2_with (first | (go_at_call 67; refine (sBaseMany_any _ _).mono ?_; rintro e w' ⟨rfl, rfl⟩) | (go_at_call 46; refine (l6In_any _ _ _ _).mono ?_; rintro e w' ⟨rfl, rfl⟩) | (go_at_call 69; refine (l2Phase_any _ _).mono ?_; rintro e w' ⟨rfl, rfl⟩))
      go_ret
      exact ⟨ret_bool (by simp [visB, H2.out]), rfl⟩
end Go.Proofs.Ytopneihamefohaa
