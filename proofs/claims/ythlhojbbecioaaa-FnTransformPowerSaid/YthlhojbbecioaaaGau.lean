/-
  Contracts of the arithmetic of Gaussian integers: units, products, sums, conjugates, norms.
-/
import Derived.Test.YthlhojbbecioaaaSkyT
import Derived.Test.YthlhojbbecioaaaGrid
import Derived.Handy
namespace Go.Proofs.Ythlhojbbecioaaa
set_option linter.unusedVariables false
open Go.RowKit

theorem and3 : ∀ k : Fin 19, bits .and .i64 ((k.1 : Nat) : Int) 3 = ((k.1 % 4 : Nat) : Int) := by decide +kernel
theorem unit_at {k r : Nat} (h : k % 4 = r) : ure k = ure r ∧ uim k = uim r := by
  subst h; simp [ure, uim]
set_option maxHeartbeats 800000 in
theorem GaussUnit_any (k : Nat) (h : k ≤ 18) (w : World) : Calls Try.prog 62 #[.int .i64 (k : Int)] w fun e w' => e = .returned (.agg #[.int .i64 (ure k), .int .i64 (uim k)]) ∧ Below w.heap.size w w' := by
  have h3 := and3 ⟨k, by omega⟩
  simp only at h3
  have i0 : ∀ w, (Instr.index 76 (.agg #[.int .i64 1, .int .i64 0, .int .i64 0, .int .i64 1, .int .i64 (-1), .int .i64 0, .int .i64 0, .int .i64 (-1)]) (.int .i64 0)).run Try.prog w = .ok (.agg #[.int .i64 1, .int .i64 0]) w := fun _ => by kernel_rfl
  have i1 : ∀ w, (Instr.index 76 (.agg #[.int .i64 1, .int .i64 0, .int .i64 0, .int .i64 1, .int .i64 (-1), .int .i64 0, .int .i64 0, .int .i64 (-1)]) (.int .i64 1)).run Try.prog w = .ok (.agg #[.int .i64 0, .int .i64 1]) w := fun _ => by kernel_rfl
  have i2 : ∀ w, (Instr.index 76 (.agg #[.int .i64 1, .int .i64 0, .int .i64 0, .int .i64 1, .int .i64 (-1), .int .i64 0, .int .i64 0, .int .i64 (-1)]) (.int .i64 2)).run Try.prog w = .ok (.agg #[.int .i64 (-1), .int .i64 0]) w := fun _ => by kernel_rfl
  have i3 : ∀ w, (Instr.index 76 (.agg #[.int .i64 1, .int .i64 0, .int .i64 0, .int .i64 1, .int .i64 (-1), .int .i64 0, .int .i64 0, .int .i64 (-1)]) (.int .i64 3)).run Try.prog w = .ok (.agg #[.int .i64 0, .int .i64 (-1)]) w := fun _ => by kernel_rfl
  rcases (show k % 4 = 0 ∨ k % 4 = 1 ∨ k % 4 = 2 ∨ k % 4 = 3 by omega) with e | e | e | e
  · replace h3 : bits .and .i64 (k : Int) 3 = 0 := by rw [h3, e]; rfl
    obtain ⟨e1, e2⟩ := unit_at e
    rw [e1, e2]
    clear e e1 e2
    go_enter Try.func62, Try.ntmps62
    go_wp2
    exact bodyPost_ret (v := .agg #[.int .i64 1, .int .i64 0]) (by simp [results, Try.results62, go_sem]) rfl ⟨rfl, by go_grown⟩
  · replace h3 : bits .and .i64 (k : Int) 3 = 1 := by rw [h3, e]; rfl
    obtain ⟨e1, e2⟩ := unit_at e
    rw [e1, e2]
    clear e e1 e2
    go_enter Try.func62, Try.ntmps62
    go_wp2
    exact bodyPost_ret (v := .agg #[.int .i64 0, .int .i64 1]) (by simp [results, Try.results62, go_sem]) rfl ⟨rfl, by go_grown⟩
  · replace h3 : bits .and .i64 (k : Int) 3 = 2 := by rw [h3, e]; rfl
    obtain ⟨e1, e2⟩ := unit_at e
    rw [e1, e2]
    clear e e1 e2
    go_enter Try.func62, Try.ntmps62
    go_wp2
    exact bodyPost_ret (v := .agg #[.int .i64 (-1), .int .i64 0]) (by simp [results, Try.results62, go_sem]) rfl ⟨rfl, by go_grown⟩
  · replace h3 : bits .and .i64 (k : Int) 3 = 3 := by rw [h3, e]; rfl
    obtain ⟨e1, e2⟩ := unit_at e
    rw [e1, e2]
    clear e e1 e2
    go_enter Try.func62, Try.ntmps62
    go_wp2
    exact bodyPost_ret (v := .agg #[.int .i64 0, .int .i64 (-1)]) (by simp [results, Try.results62, go_sem]) rfl ⟨rfl, by go_grown⟩

theorem plus_any (x y u v : Int) (w : World) (h1 : -1000000000000 ≤ x ∧ x ≤ 1000000000000) (h2 : -1000000000000 ≤ y ∧ y ≤ 1000000000000) (h3 : -1000000000000 ≤ u ∧ u ≤ 1000000000000) (h4 : -1000000000000 ≤ v ∧ v ≤ 1000000000000) :
    Calls Try.prog 60 #[.agg #[.int .i64 x, .int .i64 y], .agg #[.int .i64 u, .int .i64 v]] w fun e w' => e = .returned (.agg #[.int .i64 (x + u), .int .i64 (y + v)]) ∧ Below w.heap.size w w' := by
  obtain ⟨h1, h1'⟩ := h1
  obtain ⟨h2, h2'⟩ := h2
  obtain ⟨h3, h3'⟩ := h3
  obtain ⟨h4, h4'⟩ := h4
  go_enter Try.func60, Try.ntmps60
  go_wp2
  exact bodyPost_ret (v := .agg #[.int .i64 (x + u), .int .i64 (y + v)]) (by simp [results, Try.results60, go_sem]) rfl ⟨rfl, by go_grown⟩

/-- a real number times a unit -/
theorem times_any (x u v : Int) (w : World) (h1 : -1000000 ≤ x ∧ x ≤ 1000000) (h3 : -1 ≤ u ∧ u ≤ 1) (h4 : -1 ≤ v ∧ v ≤ 1) :
    Calls Try.prog 61 #[.agg #[.int .i64 x, .int .i64 0], .agg #[.int .i64 u, .int .i64 v]] w fun e w' => e = .returned (.agg #[.int .i64 (x * u), .int .i64 (x * v)]) ∧ Below w.heap.size w w' := by
  obtain ⟨b1, b2⟩ := mul_bd h1 h3
  obtain ⟨b3, b4⟩ := mul_bd h1 h4
  obtain ⟨h1, h1'⟩ := h1
  obtain ⟨h3, h3'⟩ := h3
  obtain ⟨h4, h4'⟩ := h4
  go_enter Try.func61, Try.ntmps61
  go_wp2
  exact bodyPost_ret (v := .agg #[.int .i64 (x * u), .int .i64 (x * v)]) (by simp [results, Try.results61, go_sem]) rfl ⟨rfl, by go_grown⟩

theorem gauss_any (x y : Int) (w : World) : Calls Try.prog 20 #[.int .i64 x, .int .i64 y] w fun e w' => e = .returned (.agg #[.int .i64 x, .int .i64 y]) ∧ Below w.heap.size w w' := by
  go_enter Try.func20, Try.ntmps20
  go_wp2
  exact bodyPost_ret (v := .agg #[.int .i64 x, .int .i64 y]) (by simp [results, Try.results20, go_sem]) rfl ⟨rfl, by go_grown⟩

theorem gaussB_mk {x y : Int} (hx : -2000000 ≤ x ∧ x ≤ 2000000) (hy : -2000000 ≤ y ∧ y ≤ 2000000) : gaussB x y = true := by
  simp only [gaussB, Bool.and_eq_true]
  exact ⟨inB_mk (by omega), inB_mk (by omega)⟩

set_option maxHeartbeats 400000 in
theorem GaussNorm_any (x y : Int) (w : World) (hx : -2000000 ≤ x ∧ x ≤ 2000000) (hy : -2000000 ≤ y ∧ y ≤ 2000000) :
    Calls Try.prog 18 #[.agg #[.int .i64 x, .int .i64 y]] w fun e w' => e = .returned (.int .i64 (x * x + y * y)) ∧ Below w.heap.size w w' := by
  have hv := gaussB_mk hx hy
  obtain ⟨b1, b2⟩ := mul_bd hx hx
  obtain ⟨b3, b4⟩ := mul_bd hy hy
  obtain ⟨h1, h1'⟩ := hx
  obtain ⟨h2, h2'⟩ := hy
  go_enter Try.func18, Try.ntmps18
  go_wp2_with fail
  refine (GaussValid_any _ _ _).mono ?_
  rintro e w1 ⟨rfl, hb⟩
  rw [hv]
  have hc0 := hb.cell (p := ⟨w.heap.size, 0, none⟩) (by simp)
  have hc1 := hb.cell (p := ⟨w.heap.size, 1, none⟩) (by simp)
  have HB := Lib.hid hb
  clear hb hv
  go_wp2
  go_ret
  exact ⟨rfl, bel_trans ((Below.refl _ _).alloc (Nat.le_refl _) _) HB.out⟩

theorem conj_any (x y : Int) (w : World) (h2 : -2000000 ≤ y ∧ y ≤ 2000000) :
    Calls Try.prog 57 #[.agg #[.int .i64 x, .int .i64 y]] w fun e w' => e = .returned (.agg #[.int .i64 x, .int .i64 (-y)]) ∧ Below w.heap.size w w' := by
  obtain ⟨h2, h2'⟩ := h2
  go_enter Try.func57, Try.ntmps57
  go_wp2
  exact bodyPost_ret (v := .agg #[.int .i64 x, .int .i64 (-y)]) (by simp [results, Try.results57, go_sem]) rfl ⟨rfl, by go_grown⟩

set_option maxHeartbeats 400000 in
theorem GaussConj_any (x y : Int) (w : World) (hx : -2000000 ≤ x ∧ x ≤ 2000000) (hy : -2000000 ≤ y ∧ y ≤ 2000000) :
    Calls Try.prog 31 #[.agg #[.int .i64 x, .int .i64 y]] w fun e w' => e = .returned (.tuple #[.agg #[.int .i64 x, .int .i64 (-y)], .bool true]) ∧ Below w.heap.size w w' := by
  have hv := gaussB_mk hx hy
  go_enter Try.func31, Try.ntmps31
  go_wp2_with fail
  refine (GaussValid_any _ _ _).mono ?_
  rintro e w1 ⟨rfl, hb⟩
  rw [hv]
  obtain ⟨W0, hW0⟩ : ∃ W0 : World, (w.alloc (.cells #[.int .i64 x, .int .i64 y] 31)).alloc (.cells #[.int .i64 0, .int .i64 0] 31) = W0 := ⟨_, rfl⟩
  have hs : w1.heap.size ≥ w.heap.size + 2 := by have := hb.size; simp at this; omega
  have hc0 := hb.cell (p := ⟨w.heap.size, 0, none⟩) (by simp; omega)
  have hc1 := hb.cell (p := ⟨w.heap.size, 1, none⟩) (by simp; omega)
  have hd0 := hb.cell (p := ⟨w.heap.size + 1, 0, none⟩) (by simp)
  have hd1 := hb.cell (p := ⟨w.heap.size + 1, 1, none⟩) (by simp)
  have hf0 := hb.frozen (p := ⟨w.heap.size + 1, 0, none⟩) (by simp)
  have hf1 := hb.frozen (p := ⟨w.heap.size + 1, 1, none⟩) (by simp)
  have hB1 : Below w.heap.size w w1 := (((Below.refl w.heap.size w).alloc (Nat.le_refl _) _).alloc (by simp) _).trans (hb.mono (by simp; omega))
  have HB := Lib.hid hB1
  clear hb hv hB1 hW0 W0
  go_wp2_with fail
  refine (conj_any _ _ _ hy).mono ?_
  rintro e w2 ⟨rfl, hb2⟩
  have hs2 : w2.heap.size ≥ w.heap.size + 2 := by have := hb2.size; omega
  have he0 := hb2.cell (p := ⟨w.heap.size + 1, 0, none⟩) (by simp; omega)
  have he1 := hb2.cell (p := ⟨w.heap.size + 1, 1, none⟩) (by simp; omega)
  have hg0 := hb2.frozen (p := ⟨w.heap.size + 1, 0, none⟩) (by simp; omega)
  have hg1 := hb2.frozen (p := ⟨w.heap.size + 1, 1, none⟩) (by simp; omega)
  have HB2 := Lib.hid (HB.out.trans (hb2.mono (by omega)))
  replace he0 : w2.cell? ⟨w.heap.size + 1, 0, none⟩ = some (.int .i64 0) := by rw [he0, hd0]; simp
  replace he1 : w2.cell? ⟨w.heap.size + 1, 1, none⟩ = some (.int .i64 0) := by rw [he1, hd1]; simp
  have hx0 : (w2.setCell ⟨w.heap.size + 1, 0, none⟩ (.int .i64 x)).cell? ⟨w.heap.size + 1, 0, none⟩ = some (.int .i64 x) := World.cell?_setCell_same' _ _ _ (by rw [he0]; rfl)
  clear hb2 HB
  go_wp2
  exact bodyPost_ret (v := .tuple #[.agg #[.int .i64 x, .int .i64 (-y)], .bool true]) (by simp [results, Try.results31, go_sem, hx0, he1]) rfl ⟨rfl, (HB2.out.setCell (by simp) _).setCell (by simp) _⟩
end Go.Proofs.Ythlhojbbecioaaa
