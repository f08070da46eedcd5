/-
  Contract of the program's SolveAmps.
-/
import Derived.Test.YtpdekpeknnlfmaaAmps
namespace Go.Proofs.Ytpdekpeknnlfmaa
set_option linter.unusedVariables false
open Go.RowKit

theorem RetA.up {w0 w w' : World} {r : List Int × Bool} {e : Ending} (h : RetA w r e w') (hb : Below w0.heap.size w0 w) : RetA w0 r e w' := by
  obtain ⟨A, c, rfl, hc, ho, hB⟩ := h
  exact ⟨A, c, rfl, hc, ho.mono hb.size (Nat.le_refl _), bel_trans hb hB⟩
/-- no number so far -/
def NoF (ls ms : List (Int × Int)) (N k : Nat) : Prop := ∀ f, 1 ≤ f → f < k → okF ls ms N f = false
theorem NoF.one (ls ms : List (Int × Int)) (N : Nat) : NoF ls ms N 1 := fun f h1 h2 => absurd h2 (by omega)
theorem NoF.next {ls ms : List (Int × Int)} {N k : Nat} (h : NoF ls ms N k) (hk : okF ls ms N k = false) : NoF ls ms N (k + 1) := fun f h1 h2 => by
  by_cases e : f = k
  · rw [e]; exact hk
  · exact h f h1 (by omega)

set_option maxHeartbeats 1000000 in
theorem SolveAmps_any (n : Int) (A B : Option Addr) (c d : Nat) (ls ms : List (Int × Int)) (w : World) (hls : Rd w A (pairs ls)) (hms : Rd w B (pairs ms)) (l1 : ls.length ≤ 1048592) (l2 : ms.length ≤ 1048592) {m m' : Nat} (hm : ls.length = m) (hm' : ms.length = m') :
    Calls Try.prog 16 #[.int .i64 n, .slice A m c, .slice B m' d] w (RetA w (solveAmps n ls ms)) := by
  subst hm hm'
  cases v1 : visB n ls with
  | false =>
    rw [amps_no (by simp [ampB, v1])]
    go_enter Try.func16, Try.ntmps16
    go_wp2_with fail
    refine (VisValid_any _ _ _ _ _ hls l1 rfl).mono ?_; rintro e w1 ⟨rfl, d1⟩
    rw [v1]
    go_wp2
    go_ret2
    exact RetA.none_ _ _ d1
  | true =>
  cases v2 : visB n ms with
  | false =>
    rw [amps_no (by simp [ampB, v2])]
    go_enter Try.func16, Try.ntmps16
    go_wp2_with fail
    refine (VisValid_any _ _ _ _ _ hls l1 rfl).mono ?_; rintro e w1 ⟨rfl, d1⟩
    rw [v1]
    go_wp2_with fail
    refine (VisValid_any _ _ _ _ _ (hms.below d1 (Nat.le_refl _)) l2 rfl).mono ?_; rintro e w2 ⟨rfl, d2⟩
    rw [v2]
    have D := bel_trans d1 d2
    clear d1 d2
    go_wp2
    go_ret2
    exact RetA.none_ _ _ D
  | true =>
  obtain ⟨N, rfl, n2, n7⟩ := many_nat (visB_ok v1).1
  by_cases n3 : N < 3
  · rw [amps_no (by simp [ampB]; omega)]
    have g3 : (N : Int) < 3 := by omega
    go_enter Try.func16, Try.ntmps16
    go_wp2_with fail
    refine (VisValid_any _ _ _ _ _ hls l1 rfl).mono ?_; rintro e w1 ⟨rfl, d1⟩
    rw [v1]
    go_wp2_with fail
    refine (VisValid_any _ _ _ _ _ (hms.below d1 (Nat.le_refl _)) l2 rfl).mono ?_; rintro e w2 ⟨rfl, d2⟩
    rw [v2]
    have D := bel_trans d1 d2
    clear d1 d2
    go_wp2
    go_ret2
    exact RetA.none_ _ _ D
  · have g3 : ¬ (N : Int) < 3 := by omega
    have HB := Lib.hid (ampB_mk (by omega) v1 v2)
    go_enter Try.func16, Try.ntmps16
    go_wp2_with fail
    refine (VisValid_any _ _ _ _ _ hls l1 rfl).mono ?_; rintro e w1 ⟨rfl, d1⟩
    rw [v1]
    go_wp2_with fail
    refine (VisValid_any _ _ _ _ _ (hms.below d1 (Nat.le_refl _)) l2 rfl).mono ?_; rintro e w2 ⟨rfl, d2⟩
    rw [v2]
    have D := bel_trans d1 d2
    clear d1 d2
    go_wp2
    go_loopw [8] (fun i wr => ∃ k : Nat, 1 ≤ k ∧ k ≤ 100 ∧ i = .int .i64 k ∧ NoF ls ms N k ∧ Below w.heap.size w wr) (fun i _ => 100 - (intOf i).toNat)
    case atStart => exact ⟨1, Nat.le_refl _, by omega, rfl, NoF.one _ _ _, D⟩
    case round =>
      clear D
      obtain ⟨k, hk1, hk, rfl, hno, hD⟩ := hrel
      by_cases hlt : k < 100
      · have g1 : (k : Int) ≤ 99 := by omega
        have HN := Lib.hid hno
        clear hno
        go_wp2_with fail
        refine (ampsFrom_yes N k A B c d ls ms wr (hls.below hD (Nat.le_refl _)) (hms.below hD (Nat.le_refl _)) v1 v2 hk1 hlt rfl rfl).mono ?_
        rintro e w3 h3
        cases ok : okF ls ms N k with
        | true =>
          rw [ampsF_yes ok] at h3
          have HF := Lib.hid (amps_hit HB.out hk1 hlt HN.out ok)
          obtain ⟨R, cr, rfl, hc, ho, hB⟩ := h3.up hD
          clear ok
          simp only [ampL_length] at hc
          go_wp2
          go_ret2
          rw [HF.out]
          exact ⟨R, cr, by simp, by simpa using hc, ho, hB⟩
        | false =>
          rw [ampsF_no ok] at h3
          have HF := Lib.hid (HN.out.next ok)
          obtain ⟨R, cr, rfl, hc, _, hB⟩ := h3.up hD
          clear ok hD
          go_wp2
          go_roundw
          case rel => exact ⟨k + 1, by omega, by omega, by go_num, HF.out, hB⟩
          case measure => simp [intOf]; omega
      · obtain rfl : k = 100 := by omega
        have HF := Lib.hid (amps_none (N := N) (ls := ls) (ms := ms) hno)
        clear hno
        go_wp2
        go_ret2
        rw [HF.out]
        exact RetA.none_ _ _ hD
end Go.Proofs.Ytpdekpeknnlfmaa
