/-
  Words for flags in the making: two lists of bools that are appended to in turn. No program is walked here.
-/
import Derived.Test.YtopneihamefohaaFlagL
import Derived.Test.YtopneihamefohaaDrawFlag
namespace Go.Proofs.Ytopneihamefohaa
set_option linter.unusedVariables false
open Go.RowKit

/-- two rows of bools in the making, in blocks of their own: j times true, k times false -/
def TwoB (w wr : World) (v u : Value) (j k : Nat) : Prop :=
  wr.ownsRow w.heap.size 4 1 v j (bools (List.replicate j true)) ∧ wr.ownsRow w.heap.size 4 1 u k (bools (List.replicate k false)) ∧ v.ownBlock ≠ u.ownBlock ∧ Below w.heap.size w wr
theorem rep_snoc (k : Nat) (b : Bool) : bools (List.replicate k b) ++ [.bool b] = bools (List.replicate (k + 1) b) := by
  rw [List.replicate_succ', bools_append]
  rfl
theorem TwoB.app1 {w wr w1 : World} {v u : Value} {j k g cap : Nat} {o : Obj} (h : TwoB w wr v u j k)
    (hown : w1.ownsRow w.heap.size 4 1 (.slice (some ⟨g, 0, none⟩) (j + 1) cap) (j + 1) (bools (List.replicate j true) ++ [.bool true])) (hg : (wr.alloc o).grownBy w1 v.ownBlock)
    (hat : v.ownBlock = some g ∨ g = (wr.alloc o).heap.size) : TwoB w w1 (.slice (some ⟨g, 0, none⟩) (j + 1) cap) u (j + 1) k := by
  refine ⟨by rw [← rep_snoc]; exact hown, (h.2.1.alloc o).kept hg (.inr (fun e => h.2.2.1 e.symm)), fun e => ?_, bel_app h.2.2.2 hg (fun q hq => (h.1.lt q hq).1)⟩
  have e2 : u.ownBlock = some g := e.symm
  rcases hat with hat | hat
  · exact h.2.2.1 (hat.trans e2.symm)
  · have := (h.2.1.lt g e2).2
    simp at hat
    omega
theorem TwoB.app2 {w wr w1 : World} {v u : Value} {j k g cap : Nat} {o : Obj} (h : TwoB w wr v u j k)
    (hown : w1.ownsRow w.heap.size 4 1 (.slice (some ⟨g, 0, none⟩) (k + 1) cap) (k + 1) (bools (List.replicate k false) ++ [.bool false])) (hg : (wr.alloc o).grownBy w1 u.ownBlock)
    (hat : u.ownBlock = some g ∨ g = (wr.alloc o).heap.size) : TwoB w w1 v (.slice (some ⟨g, 0, none⟩) (k + 1) cap) j (k + 1) := by
  refine ⟨(h.1.alloc o).kept hg (.inr h.2.2.1), by rw [← rep_snoc]; exact hown, fun e => ?_, bel_app h.2.2.2 hg (fun q hq => (h.2.1.lt q hq).1)⟩
  have e2 : v.ownBlock = some g := e
  rcases hat with hat | hat
  · exact h.2.2.1 (e2.trans hat.symm)
  · have := (h.1.lt g e2).2
    simp at hat
    omega
theorem TwoB.start (w : World) : TwoB w ((w.alloc (.cells #[] 4)).alloc (.cells #[] 4)) (.slice (some ⟨w.heap.size, 0, none⟩) 0 0) (.slice (some ⟨w.heap.size + 1, 0, none⟩) 0 0) 0 0 := by
  refine ⟨(World.ownsRow_made w #[] 0 (Nat.le_refl _) (by simp [maxLen]) rfl).alloc _, ?_, fun e => ?_, ((Below.refl _ _).alloc (Nat.le_refl _) _).alloc (by simp) _⟩
  · have := World.ownsRow_made (e := 4) (size := 1) (base := w.heap.size) (w.alloc (.cells #[] 4)) #[] 0 (by simp) (by simp [maxLen]) rfl
    simpa [bools] using this
  · simp [Value.ownBlock] at e
/-- one row of bools in the making -/
def OneB (w wr : World) (u : Value) (k : Nat) : Prop := wr.ownsRow w.heap.size 4 1 u k (bools (List.replicate k false)) ∧ Below w.heap.size w wr
theorem OneB.app {w wr w1 : World} {u v : Value} {k : Nat} {o : Obj} (h : OneB w wr u k)
    (hown : w1.ownsRow w.heap.size 4 1 v (k + 1) (bools (List.replicate k false) ++ [.bool false])) (hg : (wr.alloc o).grownBy w1 u.ownBlock) : OneB w w1 v (k + 1) :=
  ⟨by rw [← rep_snoc]; exact hown, bel_app h.2 hg (fun q hq => (h.1.lt q hq).1)⟩
theorem OneB.start (w : World) : OneB w (w.alloc (.cells #[] 4)) (.slice (some ⟨w.heap.size, 0, none⟩) 0 0) 0 :=
  ⟨World.ownsRow_made w #[] 0 (Nat.le_refl _) (by simp [maxLen]) rfl, (Below.refl _ _).alloc (Nat.le_refl _) _⟩
theorem bools_one (ps : List Bool) : ∀ u ∈ bools ps, u.oneCell' = true := by
  intro u hu
  simp only [bools, List.mem_map] at hu
  obtain ⟨p, _, rfl⟩ := hu
  rfl
theorem lab_all_rep {N : Nat} : lab N (List.replicate (nb N) true) = fun v => v := lab_all (fun j hj => gb_rep_true hj)
theorem flB_rep {N : Nat} (n2 : 2 ≤ N) (n7 : N ≤ 7) (b : Bool) : flB (N : Int) (List.replicate (nb N) b) = true := flB_mk n2 n7 (by simp)
end Go.Proofs.Ytopneihamefohaa
