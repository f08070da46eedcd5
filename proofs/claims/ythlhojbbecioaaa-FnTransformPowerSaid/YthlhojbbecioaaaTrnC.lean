/-
  A symmetric sky in the making.
-/
import Derived.Test.YthlhojbbecioaaaTrnB
import Derived.Test.YthlhojbbecioaaaSkyL
import Derived.Deep.RegionHeld3
namespace Go.Proofs.Ythlhojbbecioaaa
set_option linter.unusedVariables false
open Go.RowKit

/-- the first k cells are laid -/
def SyW (w wr : World) (zs : List Int) (k : Nat) : Prop :=
  ∃ O : List Int, O.length = zs.length ∧ (∀ j, j < k → gi O j = gi zs j + gi zs (opp j)) ∧ Ow wr 3 w.heap.size (w.heap.size + 1) (some ⟨w.heap.size, 0, none⟩) (ints O) ∧ Below w.heap.size w wr ∧ wr.heap.size = w.heap.size + 1
theorem SyW.drew {w wr : World} {zs : List Int} {k : Nat} (h : SyW w wr zs k) : SyW w wr.drew zs k := by
  obtain ⟨O, h1, h2, h3, h4, h5⟩ := h
  exact ⟨O, h1, h2, h3, h4.drew, h5⟩
theorem SyW.start (w : World) (zs : List Int) : SyW w (w.alloc (.cells (madeCells #[.int .i64 0] zs.length) 3)) zs 0 :=
  ⟨List.replicate zs.length 0, by simp, fun j hj => absurd hj (by omega), by rw [ints_replicate]; exact Ow.made w _ _ _, (Below.refl _ _).alloc (Nat.le_refl _) _, by simp⟩
theorem SyW.step {w wr : World} {zs O : List Int} {k : Nat} {off : Nat} (hk : k < zs.length) (h1 : O.length = zs.length) (h2 : ∀ j, j < k → gi O j = gi zs j + gi zs (opp j))
    (h3 : ∀ u, Ow (wr.setCell ⟨w.heap.size, 0 + k, none⟩ u) 3 w.heap.size (w.heap.size + 1) (some ⟨w.heap.size, 0, none⟩) ((ints O).set k u)) (h4 : Below w.heap.size w wr) (h5 : wr.heap.size = w.heap.size + 1) (hg : w.heap.size ≤ off) :
    SyW w (wr.setCell ⟨w.heap.size, 0 + k, none⟩ (.int .i64 (gi zs k + gi zs (opp k)))) zs (k + 1) := by
  refine ⟨O.set k (gi zs k + gi zs (opp k)), by simpa using h1, fun j hj => ?_, by rw [← ints_set]; exact h3 _, h4.setCell (Nat.le_refl _) _, by simpa [World.setCell] using h5⟩
  rw [gi_set _ _ _ _ (by omega)]
  split
  · subst_vars; rfl
  · exact h2 j (by omega)
theorem SyW.done {zs O : List Int} (h1 : O.length = zs.length) (h2 : ∀ j, j < 16 → gi O j = gi zs j + gi zs (opp j)) (hz : zs.length = 16) : O = symL zs := by
  apply ext_gi' (by simp [h1, hz])
  intro j hj
  have hj' : j < 16 := by simpa using hj
  rw [gi_sym zs hj']
  exact h2 j hj'
theorem call_cel' {X Y : Int} {q : Nat} (h : cel X Y = q) : ∀ w : World, Calls Try.prog 19 #[.int .i64 X, .int .i64 Y] w fun e w' => e = .returned (.int .i64 (q : Int)) ∧ w' = w :=
  fun w => (lawCellAt_any X Y w).mono fun _ _ ⟨he, hw⟩ => ⟨by rw [he, h], hw.symm⟩
end Go.Proofs.Ythlhojbbecioaaa
