/-
  Contracts of the distance of two phases and of what tells lists of phases, of the program and of the reference.
-/
import Derived.Test.YtpdekpeknnlfmaaSolveP
namespace Go.Proofs.Ytpdekpeknnlfmaa
set_option linter.unusedVariables false
open Go.RowKit

theorem phB_mk {x : Int} (h0 : 0 ≤ x) (h1 : x < 360) : phB x = true := inB_mk (by omega)
theorem sgnd_bd {x : Int} (h0 : 0 ≤ x) (h1 : x < 360) : -180 < sgnd x ∧ sgnd x ≤ 180 := by
  unfold sgnd
  split <;> omega
theorem PhaseSigned_any (x : Int) (w : World) (h0 : 0 ≤ x) (h1 : x < 360) : Calls Try.prog 83 #[.int .i64 x] w fun e w' => e = .returned (.int .i64 (sgnd x)) ∧ w = w' := by
  have hp := phB_mk h0 h1
  by_cases h : 180 < x
  · have HS := Lib.hid (show sgnd x = x - 360 by unfold sgnd; rw [if_pos (by omega)])
    go_enter Try.func83, Try.ntmps83
    go_wp2_with (go_at_call 82; refine (isPhase_any _ _).mono ?_; rintro e w' ⟨rfl, rfl⟩)
    go_ret
    exact ⟨ret_int HS.out.symm, rfl⟩
  · have HS := Lib.hid (show sgnd x = x by unfold sgnd; rw [if_neg (by omega)])
    go_enter Try.func83, Try.ntmps83
    go_wp2_with (go_at_call 82; refine (isPhase_any _ _).mono ?_; rintro e w' ⟨rfl, rfl⟩)
    go_ret
    exact ⟨ret_int HS.out.symm, rfl⟩
theorem sPhaseSigned_any (x : Int) (w : World) (h0 : 0 ≤ x) (h1 : x < 360) : Calls Try.prog 86 #[.int .i64 x] w fun e w' => e = .returned (.int .i64 (sgnd x)) ∧ w = w' := by
  have hp := phB_mk h0 h1
  by_cases h : 180 < x
  · have HS := Lib.hid (show sgnd x = x - 360 by unfold sgnd; rw [if_pos (by omega)])
    go_enter Try.func86, Try.ntmps86
    go_wp2_with (go_at_call 60; refine (l2Phase_any _ _).mono ?_; rintro e w' ⟨rfl, rfl⟩)
    go_ret
    exact ⟨ret_int HS.out.symm, rfl⟩
  · have HS := Lib.hid (show sgnd x = x by unfold sgnd; rw [if_neg (by omega)])
    go_enter Try.func86, Try.ntmps86
    go_wp2_with (go_at_call 60; refine (l2Phase_any _ _).mono ?_; rintro e w' ⟨rfl, rfl⟩)
    go_ret
    exact ⟨ret_int HS.out.symm, rfl⟩
theorem PhaseNear_any (a b : Int) (w : World) (a0 : 0 ≤ a) (a1 : a < 360) (b0 : 0 ≤ b) (b1' : b < 360) : Calls Try.prog 59 #[.int .i64 a, .int .i64 b] w fun e w' => e = .returned (.int .i64 (near a b)) ∧ w = w' := by
  have hp := phB_mk a0 a1
  have hq := phB_mk b0 b1'
  have hs := sgnd_bd (x := (a - b) % 360) (by omega) (by omega)
  obtain ⟨hs1, hs2⟩ := hs
  have HN := Lib.hid (show near a b = max (sgnd ((a - b) % 360)) (-(sgnd ((a - b) % 360))) from rfl)
  go_enter Try.func59, Try.ntmps59
  go_wp2_with (first | (go_at_call 82; refine (isPhase_any _ _).mono ?_; rintro e w' ⟨rfl, rfl⟩) | (go_at_call 24; refine (PhaseOf_any _ _).mono ?_; rintro e w' ⟨rfl, rfl⟩) | (go_at_call 83; refine (PhaseSigned_any _ _ (by omega) (by omega)).mono ?_; rintro e w' ⟨rfl, rfl⟩))
  all_goals
    go_ret
    exact ⟨ret_int (by rw [HN.out]; omega), rfl⟩
theorem still_near (a b : Int) (a0 : 0 ≤ a) (a1 : a < 360) (b0 : 0 ≤ b) (b1' : b < 360) : ∀ w : World, Calls Try.prog 59 #[.int .i64 a, .int .i64 b] w fun e w' => e = .returned (.int .i64 (near a b)) ∧ w' = w :=
  fun w => (PhaseNear_any a b w a0 a1 b0 b1').mono fun _ _ ⟨he, hw⟩ => ⟨he, hw.symm⟩
theorem sPhaseNear_any (a b : Int) (w : World) (a0 : 0 ≤ a) (a1 : a < 360) (b0 : 0 ≤ b) (b1' : b < 360) : Calls Try.prog 62 #[.int .i64 a, .int .i64 b] w fun e w' => e = .returned (.int .i64 (near a b)) ∧ w = w' := by
  have hp := phB_mk a0 a1
  have hq := phB_mk b0 b1'
  have hs := sgnd_bd (x := (a - b) % 360) (by omega) (by omega)
  obtain ⟨hs1, hs2⟩ := hs
  have HN := Lib.hid (show near a b = max (sgnd ((a - b) % 360)) (-(sgnd ((a - b) % 360))) from rfl)
  go_enter Try.func62, Try.ntmps62
  go_wp2_with (first | (go_at_call 60; refine (l2Phase_any _ _).mono ?_; rintro e w' ⟨rfl, rfl⟩) | (go_at_call 56; refine (sPhaseOf_any _ _).mono ?_; rintro e w' ⟨rfl, rfl⟩) | (go_at_call 86; refine (sPhaseSigned_any _ _ (by omega) (by omega)).mono ?_; rintro e w' ⟨rfl, rfl⟩))
  all_goals
    go_ret
    exact ⟨ret_int (by rw [HN.out]; omega), rfl⟩
theorem arePhases_any (A : Option Addr) (c : Nat) (zs : List Int) (w : World) (h : Rd w A (ints zs)) (hl : zs.length ≤ 1048592) {n : Nat} (hn : zs.length = n) :
    Calls Try.prog 58 #[.slice A n c] w fun e w' => e = .returned (.bool (allP zs)) ∧ w = w' := by
  subst hn
  go_enter Try.func58, Try.ntmps58
  go_wp2
  go_loop [7] (fun i => ∃ k : Nat, k ≤ zs.length ∧ i = .int .i64 k ∧ ∀ j, j < k → phB (gi zs j) = true) (fun i => zs.length - (intOf i).toNat)
  case atStart => exact ⟨0, Nat.zero_le _, rfl, fun j hj => absurd hj (by omega)⟩
  case round =>
    obtain ⟨k, hk, rfl, hv⟩ := hrel
    by_cases hlt : k < zs.length
    · obtain ⟨b, off, rfl, hbl, hc⟩ := h.int_at hlt
      have i1 : (k : Int) < (zs.length : Int) := by omega
      cases e : phB (gi zs k) with
      | false =>
        have HF := Lib.hid (allP_not hlt e)
        clear hv
        go_wp2_with (go_at_call 82; refine (isPhase_any _ _).mono ?_; rintro e w' ⟨rfl, rfl⟩)
        go_ret
        exact ⟨ret_bool HF.out.symm, rfl⟩
      | true =>
        have HV := Lib.hid (show ∀ j, j < k + 1 → phB (gi zs j) = true from fun j hj => by
          by_cases hjk : j = k
          · rw [hjk]; exact e
          · exact hv j (by omega))
        clear hv
        go_wp2_with (go_at_call 82; refine (isPhase_any _ _).mono ?_; rintro e w' ⟨rfl, rfl⟩)
        go_round
        case rel => exact ⟨k + 1, by omega, by go_num, HV.out⟩
        case measure => simp [intOf]; omega
    · obtain rfl : k = zs.length := by omega
      have HN := Lib.hid (allP_mk hv)
      clear hv
      go_wp2
      go_ret
      exact ⟨ret_bool HN.out.symm, rfl⟩
theorem l15Two_any (n : Int) (A B : Option Addr) (c d : Nat) (ls ms : List (Int × Int)) (w : World) (h : Rd w A (pairs ls)) (h2 : Rd w B (pairs ms)) (hl : ls.length ≤ 1048592) (hl2 : ms.length ≤ 1048592) {m m' : Nat} (hm : ls.length = m) (hm' : ms.length = m') :
    Calls Try.prog 48 #[.int .i64 n, .slice A m c, .slice B m' d] w fun e w' => e = .returned (.bool (visB n ls && visB n ms)) ∧ w = w' := by
  subst hm hm'
  cases v1 : visB n ls with
  | false =>
    go_enter Try.func48, Try.ntmps48
    go_wp2_with fail
    refine (sVisValid_any _ _ _ _ _ h hl rfl).mono ?_; rintro e w' ⟨rfl, rfl⟩
    rw [v1]
    go_wp2
    go_ret
    exact ⟨rfl, rfl⟩
  | true =>
    go_enter Try.func48, Try.ntmps48
    go_wp2_with fail
    refine (sVisValid_any _ _ _ _ _ h hl rfl).mono ?_; rintro e w' ⟨rfl, rfl⟩
    rw [v1]
    go_wp2_with fail
    refine (sVisValid_any _ _ _ _ _ h2 hl2 rfl).mono ?_; rintro e w' ⟨rfl, rfl⟩
    go_wp2
    go_ret
    exact ⟨rfl, rfl⟩
end Go.Proofs.Ytpdekpeknnlfmaa
