/-
  GainRemove for all arguments.
-/
import Derived.Test.YtpdekpeknnlfmaaRemove
namespace Go.Proofs.Ytpdekpeknnlfmaa
set_option linter.unusedVariables false
open Go.RowKit

set_option maxHeartbeats 2000000 in
theorem GainRemove_any (n : Int) (A B : Option Addr) (c d : Nat) (ls gs : List (Int × Int)) (w : World) (hls : Rd w A (pairs ls)) (hgs : Rd w B (pairs gs)) (hl : ls.length ≤ 1048592) (hl' : gs.length ≤ 1048592) {m m' : Nat} (hm : ls.length = m) (hm' : gs.length = m') :
    Calls Try.prog 41 #[.int .i64 n, .slice A m c, .slice B m' d] w (RetG w 32 (gainRemove n ls gs)) := by
  subst hm hm'
  obtain ⟨W0, hW0⟩ : ∃ W0 : World, W0 = (((w.alloc (.cells #[.slice A ls.length c] 23)).alloc (.cells #[.slice B gs.length d] 23)).alloc (.cells #[.slice none 0 0] 23)).alloc (.cells #[.bool false] 4) := ⟨_, rfl⟩
  have bw0 : Below w.heap.size w W0 := by rw [hW0]; exact ((((Below.refl _ _).alloc (Nat.le_refl _) _).alloc (by simp) _).alloc (by simp; omega) _).alloc (by simp; omega) _
  have bL : Boxed W0 w.heap.size 23 (.slice A ls.length c) := by rw [hW0]; exact (((Boxed.new w _ _).alloc _).alloc _).alloc _
  have bG : Boxed W0 (w.heap.size + 1) 23 (.slice B gs.length d) := by rw [hW0]; have := Boxed.new (w.alloc (.cells #[.slice A ls.length c] 23)) 23 (.slice B gs.length d); exact ((show Boxed ((w.alloc (.cells #[.slice A ls.length c] 23)).alloc (.cells #[.slice B gs.length d] 23)) (w.heap.size + 1) 23 (.slice B gs.length d) by simpa using this).alloc _).alloc _
  have bP : Boxed W0 (w.heap.size + 2) 23 (.slice none 0 0) := by rw [hW0]; have := Boxed.new ((w.alloc (.cells #[.slice A ls.length c] 23)).alloc (.cells #[.slice B gs.length d] 23)) 23 (.slice none 0 0); exact (show Boxed (((w.alloc (.cells #[.slice A ls.length c] 23)).alloc (.cells #[.slice B gs.length d] 23)).alloc (.cells #[.slice none 0 0] 23)) (w.heap.size + 2) 23 (.slice none 0 0) by simpa using this).alloc _
  have bQ : Boxed W0 (w.heap.size + 3) 4 (.bool false) := by rw [hW0]; have := Boxed.new (((w.alloc (.cells #[.slice A ls.length c] 23)).alloc (.cells #[.slice B gs.length d] 23)).alloc (.cells #[.slice none 0 0] 23)) 4 (.bool false); simpa using this
  cases va : visB n ls with
  | false =>
    rw [show gainRemove n ls gs = ([], false) by simp [gainRemove, va]]
    go_enter Try.func41, Try.ntmps41
    go_wp2_with fail
    rw [← hW0]
    clear hW0
    refine (VisValid_any _ _ _ _ _ (hls.below bw0 (Nat.le_refl _)) hl rfl).mono ?_
    rintro e v1 ⟨rfl, d1⟩
    rw [va]
    have D := bel_trans bw0 d1
    have hP := bP.belowB d1
    have hQ := bQ.belowB d1
    have cP := hP.cell
    have fP := hP.frozen
    have cQ := hQ.cell
    have fQ := hQ.frozen
    have B3 := Lib.hid ((D.setCell (p := ⟨w.heap.size + 2, 0, none⟩) (by simp) (.slice none 0 0)).setCell (p := ⟨w.heap.size + 3, 0, none⟩) (by simp) (.bool false))
    have S3 := Lib.hid ((hP.set (.slice none 0 0)).other (show w.heap.size + 2 ≠ w.heap.size + 3 by omega) (.bool false))
    have S4 := Lib.hid ((hQ.other (show w.heap.size + 3 ≠ w.heap.size + 2 by omega) (.slice none 0 0)).set (.bool false))
    clear d1 hP hQ D bL bG bP bQ bw0
    go_wp2
    refine bodyPost_ret (results_cell2 rfl _ _ _ _ _ _ rfl rfl (load_slice S3.out) (load_bool S4.out)) rfl ?_
    exact RetG.none_ _ _ B3.out
  | true =>
  cases vb : gainB n gs with
  | false =>
    rw [show gainRemove n ls gs = ([], false) by simp [gainRemove, vb]]
    go_enter Try.func41, Try.ntmps41
    go_wp2_with fail
    rw [← hW0]
    clear hW0
    refine (VisValid_any _ _ _ _ _ (hls.below bw0 (Nat.le_refl _)) hl rfl).mono ?_
    rintro e v1 ⟨rfl, d1⟩
    rw [va]
    have D1 := bel_trans bw0 d1
    replace bP := bP.belowB d1
    replace bQ := bQ.belowB d1
    have cG := (bG.belowB d1).cell
    clear d1 bw0
    go_wp2_with fail
    refine (GainsValid_any _ _ _ _ _ (hgs.below D1 (Nat.le_refl _)) hl' rfl).mono ?_
    rintro e v2 ⟨rfl, d2⟩
    rw [vb]
    have D := bel_trans D1 d2
    have hP := bP.belowB d2
    have hQ := bQ.belowB d2
    have cP := hP.cell
    have fP := hP.frozen
    have cQ := hQ.cell
    have fQ := hQ.frozen
    have B3 := Lib.hid ((D.setCell (p := ⟨w.heap.size + 2, 0, none⟩) (by simp) (.slice none 0 0)).setCell (p := ⟨w.heap.size + 3, 0, none⟩) (by simp) (.bool false))
    have S3 := Lib.hid ((hP.set (.slice none 0 0)).other (show w.heap.size + 2 ≠ w.heap.size + 3 by omega) (.bool false))
    have S4 := Lib.hid ((hQ.other (show w.heap.size + 3 ≠ w.heap.size + 2 by omega) (.slice none 0 0)).set (.bool false))
    clear d2 hP hQ D bL bG bP bQ D1 cG
    go_wp2
    refine bodyPost_ret (results_cell2 rfl _ _ _ _ _ _ rfl rfl (load_slice S3.out) (load_bool S4.out)) rfl ?_
    exact RetG.none_ _ _ B3.out
  | true =>
  obtain ⟨N, rfl, h2, h7⟩ := many_nat (visB_ok va).1
  exact GainRemove_yes N A B c d ls gs w hls hgs va vb rfl rfl

end Go.Proofs.Ytpdekpeknnlfmaa
