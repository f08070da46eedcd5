/-
  Contracts of the program's CloseVis and of what it calls.
-/
import Derived.Test.YtopneihamefohaaCvis
import Derived.Test.YtopneihamefohaaBasesC
import Derived.Test.YtopneihamefohaaFlagA
namespace Go.Proofs.Ytopneihamefohaa
set_option linter.unusedVariables false
open Go.RowKit Go.Shelf
attribute [local go_sem] Oper.semAt_some

theorem arePhasesQ_any (A : Option Addr) (c : Nat) (zs : List Int) (w : World) (h : Rd w A (ints zs)) (hl : zs.length ≤ 1048592) {n : Nat} (hn : zs.length = n) :
    Calls Try.prog 74 #[.slice A n c] w fun e w' => e = .returned (.bool (allQ zs)) ∧ w = w' := by
  subst hn
  go_enter Try.func74, Try.ntmps74
  go_wp2
  go_loop [7] (fun i => ∃ k : Nat, k ≤ zs.length ∧ i = .int .i64 k ∧ ∀ j, j < k → phB (gi zs j) = true) (fun i => zs.length - (intOf i).toNat)
  case atStart => exact ⟨0, Nat.zero_le _, rfl, fun j hj => absurd hj (by omega)⟩
  case round =>
    obtain ⟨k, hk, rfl, hv⟩ := hrel
    by_cases hlt : k < zs.length
    · obtain ⟨b, off, rfl, hbl, hc⟩ := h.int_at hlt
      have i1 : (k : Int) < (zs.length : Int) := by omega
      cases e : phB (gi zs k) with
      | false =>
        have HF := Lib.hid (allQ_not hlt e)
        clear hv
        go_wp2_with (go_at_call 76; refine (isPhase_any _ _).mono ?_; rintro e w' ⟨rfl, rfl⟩)
        go_ret
        exact ⟨ret_bool HF.out.symm, rfl⟩
      | true =>
        have HV := Lib.hid (show ∀ j, j < k + 1 → phB (gi zs j) = true from fun j hj => by
          by_cases hjk : j = k
          · rw [hjk]; exact e
          · exact hv j (by omega))
        clear hv
        go_wp2_with (go_at_call 76; refine (isPhase_any _ _).mono ?_; rintro e w' ⟨rfl, rfl⟩)
        go_round
        case rel => exact ⟨k + 1, by omega, by go_num, HV.out⟩
        case measure => simp [intOf]; omega
    · obtain rfl : k = zs.length := by omega
      have HN := Lib.hid (allQ_mk hv)
      clear hv
      go_wp2
      go_ret
      exact ⟨ret_bool HN.out.symm, rfl⟩
theorem isBase_any (n : Int) (A : Option Addr) (c : Nat) (xs : List Int) (w : World) (h : Rd w A (ints xs)) (hl : xs.length ≤ 1048592) {m : Nat} (hm : xs.length = m) :
    Calls Try.prog 65 #[.int .i64 n, .slice A m c] w fun e w' => e = .returned (.bool (baseB n xs)) ∧ w = w' := by
  subst hm
  by_cases h1 : cm n = 0
  · have HF := Lib.hid (show baseB n xs = false by simp [baseB, h1])
    have d1 : ¬ 0 < cm n := by omega
    go_enter Try.func65, Try.ntmps65
    go_wp2_with (go_at_call 16; refine (CloseMany_any _ _).mono ?_; rintro e w' ⟨rfl, rfl⟩)
    go_ret
    exact ⟨ret_bool HF.out.symm, rfl⟩
  have hc := (cm_bm h1).2.1
  have d1 : 0 < cm n := by omega
  by_cases h2 : (xs.length : Int) = cm n
  case neg =>
    have HF := Lib.hid (show baseB n xs = false by simp [baseB, h2])
    have h2' : ((xs.length : Int) == cm n) = false := by simpa using h2
    go_enter Try.func65, Try.ntmps65
    go_wp2_with (go_at_call 16; refine (CloseMany_any _ _).mono ?_; rintro e w' ⟨rfl, rfl⟩)
    go_ret
    exact ⟨ret_bool HF.out.symm, rfl⟩
  have h2' : ((xs.length : Int) == cm n) = true := by simpa using h2
  have HB := Lib.hid (show baseB n xs = allQ xs by simp [baseB, h1, h2])
  clear h2 h1 hc
  go_enter Try.func65, Try.ntmps65
  go_wp2_with (first | (go_at_call 16; refine (CloseMany_any _ _).mono ?_; rintro e w' ⟨rfl, rfl⟩) | (go_at_call 74; refine (arePhasesQ_any _ _ _ _ h hl rfl).mono ?_; rintro e w' ⟨rfl, rfl⟩))
  all_goals
    go_ret
    exact ⟨ret_bool (by rw [HB.out]), rfl⟩
end Go.Proofs.Ytopneihamefohaa
