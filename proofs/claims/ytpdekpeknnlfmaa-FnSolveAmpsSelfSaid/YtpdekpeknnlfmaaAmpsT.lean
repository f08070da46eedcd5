/-
  Contract of the reference's SolveAmps.
-/
import Derived.Test.YtpdekpeknnlfmaaAmpsS
namespace Go.Proofs.Ytpdekpeknnlfmaa
set_option linter.unusedVariables false
open Go.RowKit

set_option maxHeartbeats 1000000 in
theorem sSolveAmps_any (n : Int) (A B : Option Addr) (c d : Nat) (ls ms : List (Int × Int)) (w : World) (hls : Rd w A (pairs ls)) (hms : Rd w B (pairs ms)) (l1 : ls.length ≤ 1048592) (l2 : ms.length ≤ 1048592) {m m' : Nat} (hm : ls.length = m) (hm' : ms.length = m') :
    Calls Try.prog 17 #[.int .i64 n, .slice A m c, .slice B m' d] w (RetA w (solveAmps n ls ms)) := by
  subst hm hm'
  have bl := (Below.refl w.heap.size w).alloc (Nat.le_refl _) (.cells #[] 3)
  have BL := Lib.hid bl
  clear bl
  cases v1 : visB n ls && visB n ms with
  | false =>
    rw [amps_no (by simp [ampB, v1])]
    go_enter Try.func17, Try.ntmps17
    go_wp2_with fail
    refine (l15Two_any _ _ _ _ _ _ _ _ hls hms l1 l2 rfl rfl).mono ?_; rintro e w' ⟨rfl, rfl⟩
    rw [v1]
    go_wp2
    go_ret2
    exact RetA.none_ _ _ BL.out
  | true =>
  have v1' := v1
  rw [Bool.and_eq_true] at v1'
  obtain ⟨vl, vm⟩ := v1'
  obtain ⟨N, rfl, n2, n7⟩ := many_nat (visB_ok vl).1
  by_cases n3 : N < 3
  · rw [amps_no (by simp [ampB]; omega)]
    have g3 : (N : Int) < 3 := by omega
    go_enter Try.func17, Try.ntmps17
    go_wp2_with fail
    refine (l15Two_any _ _ _ _ _ _ _ _ hls hms l1 l2 rfl rfl).mono ?_; rintro e w' ⟨rfl, rfl⟩
    rw [v1]
    go_wp2
    go_ret2
    exact RetA.none_ _ _ BL.out
  · have g3 : ¬ (N : Int) < 3 := by omega
    have HB := Lib.hid (ampB_mk (by omega) vl vm)
    go_enter Try.func17, Try.ntmps17
    go_wp2_with fail
    refine (l15Two_any _ _ _ _ _ _ _ _ hls hms l1 l2 rfl rfl).mono ?_; rintro e w' ⟨rfl, rfl⟩
    rw [v1]
    go_wp2
    go_loopw [8] (fun i wr => ∃ k : Nat, 1 ≤ k ∧ k ≤ 100 ∧ i = .int .i64 k ∧ NoF ls ms N k ∧ Below w.heap.size w wr) (fun i _ => 100 - (intOf i).toNat)
    case atStart => exact ⟨1, Nat.le_refl _, by omega, rfl, NoF.one _ _ _, Below.refl _ _⟩
    case round =>
      obtain ⟨k, hk1, hk, rfl, hno, hD⟩ := hrel
      by_cases hlt : k < 100
      · have g1 : (k : Int) ≤ 99 := by omega
        have HN := Lib.hid hno
        clear hno
        go_wp2_with fail
        refine (l15Others_yes N k A B c d ls ms wr (hls.below hD (Nat.le_refl _)) (hms.below hD (Nat.le_refl _)) vl vm hk1 hlt rfl rfl).mono ?_
        rintro e w3 ⟨R, cr, rfl, hc, ho, hb⟩
        have hD3 := bel_trans hD hb
        rw [ampR_length]
        go_wp2_with fail
        refine (l15Amps_yes N A B R c d cr ls ms (ampR ls ms k N) w3 (hls.below hD3 (Nat.le_refl _)) (hms.below hD3 (Nat.le_refl _)) ho.rd vl vm (by simp) (fun j hj => by rw [gi_ampR hj]; exact ampR1_bd vl vm hk1 hlt hj) rfl rfl).mono ?_
        rintro e w4 ⟨rfl, hb4⟩
        rw [fits_ampR vl]
        have hD4 := bel_trans hD3 hb4
        have ho4 := ho.below hb4 (Nat.le_refl _)
        have hsz := hb.size
        have hsz2 := hD.size
        have hsz4 := hb4.size
        cases ok : okF ls ms N k with
        | true =>
          have HF := Lib.hid (amps_hit HB.out hk1 hlt HN.out ok)
          have HR := Lib.hid (ampR_yes (okF_parts ok).1)
          clear ok hb4 hb
          simp only [ampR_length] at hc
          go_wp2
          go_ret2
          rw [HF.out]
          exact ⟨R, cr, by simp, by simpa using hc, by rw [← HR.out]; exact ho4.mono (by omega) (by omega), hD4⟩
        | false =>
          have HF := Lib.hid (HN.out.next ok)
          clear ok hb4 hb ho4 ho
          go_wp2
          go_roundw
          case rel => exact ⟨k + 1, by omega, by omega, by go_num, HF.out, hD4⟩
          case measure => simp [intOf]; omega
      · obtain rfl : k = 100 := by omega
        have HF := Lib.hid (amps_none (N := N) (ls := ls) (ms := ms) hno)
        have HL := Lib.hid (hD.alloc hD.size (.cells #[] 3))
        clear hno
        go_wp2
        go_ret2
        rw [HF.out]
        exact RetA.none_ _ _ HL.out
end Go.Proofs.Ytpdekpeknnlfmaa
