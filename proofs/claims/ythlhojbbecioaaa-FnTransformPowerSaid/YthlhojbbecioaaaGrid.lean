/-
  Contracts of GaussValid and GridValid, of the program and of the reference.
-/
import Derived.Test.YthlhojbbecioaaaGaussS
import Derived.Test.YthlhojbbecioaaaSkyA
namespace Go.Proofs.Ythlhojbbecioaaa
set_option linter.unusedVariables false
open Go.RowKit

def gaussB (x y : Int) : Bool := inB x (-1000000000) 1000000000 && inB y (-1000000000) 1000000000
def allG (ps : List (Int × Int)) : Bool := ps.all fun p => gaussB p.1 p.2
def gridB (ps : List (Int × Int)) : Bool := decide (ps.length = 16) && allG ps
def GoodTo (ps : List (Int × Int)) (k : Nat) : Prop := ∀ j, j < k → gaussB (g1 ps j) (g2 ps j) = true
theorem GoodTo.step {ps : List (Int × Int)} {k : Nat} (h : GoodTo ps k) (e : gaussB (g1 ps k) (g2 ps k) = true) : GoodTo ps (k + 1) := fun j hj => by
  by_cases hjk : j = k
  · rw [hjk]; exact e
  · exact h j (by omega)
theorem g12_get {ps : List (Int × Int)} {j : Nat} (h : j < ps.length) : g1 ps j = ps[j].1 ∧ g2 ps j = ps[j].2 := by simp [g1, g2, h]
theorem GoodTo.all {ps : List (Int × Int)} (h : GoodTo ps ps.length) : allG ps = true := by
  unfold allG
  rw [List.all_eq_true]
  intro p hp
  obtain ⟨j, hj, rfl⟩ := List.mem_iff_getElem.1 hp
  rw [← (g12_get hj).1, ← (g12_get hj).2]
  exact h j hj
theorem allG_at {ps : List (Int × Int)} (h : allG ps = true) {j : Nat} (hj : j < ps.length) : gaussB (g1 ps j) (g2 ps j) = true := by
  unfold allG at h
  rw [List.all_eq_true] at h
  rw [(g12_get hj).1, (g12_get hj).2]
  exact h _ (List.getElem_mem hj)
theorem allG_not {ps : List (Int × Int)} {j : Nat} (hj : j < ps.length) (h : gaussB (g1 ps j) (g2 ps j) = false) : allG ps = false := by
  cases hh : allG ps with
  | false => rfl
  | true => rw [allG_at hh hj] at h; cases h

set_option maxHeartbeats 400000 in
theorem GaussValid_any (x y : Int) (w : World) : Calls Try.prog 46 #[.agg #[.int .i64 x, .int .i64 y]] w fun e w' => e = .returned (.bool (gaussB x y)) ∧ Below w.heap.size w w' := by
  cases hx : inB x (-1000000000) 1000000000 with
  | false =>
    go_enter Try.func46, Try.ntmps46
    go_wp2_with fail
    refine (inRange_any _ _ _ (by omega) (by omega)).mono ?_; rintro e w' ⟨rfl, rfl⟩
    go_wp2
    go_ret
    exact ⟨ret_bool (by simp [gaussB, hx]), by go_grown⟩
  | true =>
    go_enter Try.func46, Try.ntmps46
    go_wp2_with fail
    refine (inRange_any _ _ _ (by omega) (by omega)).mono ?_; rintro e w' ⟨rfl, rfl⟩
    go_wp2_with fail
    refine (inRange_any _ _ _ (by omega) (by omega)).mono ?_; rintro e w' ⟨rfl, rfl⟩
    go_wp2
    go_ret
    exact ⟨ret_bool (by simp [gaussB, hx]), by go_grown⟩

end Go.Proofs.Ythlhojbbecioaaa
