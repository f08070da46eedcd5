/-
  GainApply for all arguments.
-/
import Derived.Test.YtpdekpeknnlfmaaApply
namespace Go.Proofs.Ytpdekpeknnlfmaa
set_option linter.unusedVariables false
open Go.RowKit

set_option maxHeartbeats 2000000 in
theorem GainApply_any (n : Int) (A B : Option Addr) (c d : Nat) (ls gs : List (Int × Int)) (w : World) (hls : Rd w A (pairs ls)) (hgs : Rd w B (pairs gs)) (hl : ls.length ≤ 1048592) (hl' : gs.length ≤ 1048592) {m m' : Nat} (hm : ls.length = m) (hm' : gs.length = m') :
    Calls Try.prog 37 #[.int .i64 n, .slice A m c, .slice B m' d] w (RetG w 32 (gainApply n ls gs)) := by
  subst hm hm'
  obtain ⟨W0, hW0⟩ : ∃ W0 : World, W0 = (w.alloc (.cells #[.slice A ls.length c] 23)).alloc (.cells #[.slice B gs.length d] 23) := ⟨_, rfl⟩
  have bw0 : Below w.heap.size w W0 := by rw [hW0]; exact ((Below.refl _ _).alloc (Nat.le_refl _) _).alloc (by simp) _
  have bL : Boxed W0 w.heap.size 23 (.slice A ls.length c) := by rw [hW0]; exact (Boxed.new w _ _).alloc _
  have bG : Boxed W0 (w.heap.size + 1) 23 (.slice B gs.length d) := by rw [hW0]; have := Boxed.new (w.alloc (.cells #[.slice A ls.length c] 23)) 23 (.slice B gs.length d); simpa using this
  cases va : visB n ls with
  | false =>
    rw [show gainApply n ls gs = ([], false) by simp [gainApply, va]]
    go_enter Try.func37, Try.ntmps37
    go_wp2_with fail
    rw [← hW0]
    refine (VisValid_any _ _ _ _ _ (hls.below bw0 (Nat.le_refl _)) hl rfl).mono ?_
    rintro e v1 ⟨rfl, d1⟩
    rw [va]
    have D := bel_trans bw0 d1
    clear d1
    go_wp2
    go_ret2
    exact RetG.none_ _ _ D
  | true =>
  cases vb : gainB n gs with
  | false =>
    rw [show gainApply n ls gs = ([], false) by simp [gainApply, vb]]
    go_enter Try.func37, Try.ntmps37
    go_wp2_with fail
    rw [← hW0]
    refine (VisValid_any _ _ _ _ _ (hls.below bw0 (Nat.le_refl _)) hl rfl).mono ?_
    rintro e v1 ⟨rfl, d1⟩
    rw [va]
    have D := bel_trans bw0 d1
    have cG := (bG.belowB d1).cell
    clear d1
    go_wp2_with fail
    refine (GainsValid_any _ _ _ _ _ (hgs.below D (Nat.le_refl _)) hl' rfl).mono ?_
    rintro e v2 ⟨rfl, d2⟩
    rw [vb]
    have D2 := bel_trans D d2
    clear d2
    go_wp2
    go_ret2
    exact RetG.none_ _ _ D2
  | true =>
  obtain ⟨N, rfl, h2, h7⟩ := many_nat (visB_ok va).1
  exact GainApply_yes N A B c d ls gs w hls hgs va vb rfl rfl

end Go.Proofs.Ytpdekpeknnlfmaa
