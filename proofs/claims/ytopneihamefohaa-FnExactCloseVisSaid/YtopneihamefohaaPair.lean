/-
  Words for slices of structs of two integers. No program is walked here.
-/
import Derived.Test.YtopneihamefohaaInts
namespace Go.Proofs.Ytopneihamefohaa
set_option linter.unusedVariables false
open Go.RowKit

/-- the cells of a list of pairs -/
def pairs (ps : List (Int × Int)) : List Value := ps.flatMap fun p => [.int .i64 p.1, .int .i64 p.2]
def g1 (ps : List (Int × Int)) (k : Nat) : Int := (ps.getD k (0, 0)).1
def g2 (ps : List (Int × Int)) (k : Nat) : Int := (ps.getD k (0, 0)).2
theorem pairs_cons (p : Int × Int) (ps : List (Int × Int)) : pairs (p :: ps) = .int .i64 p.1 :: .int .i64 p.2 :: pairs ps := by simp [pairs]
theorem pairs_nil : pairs [] = [] := rfl
@[simp] theorem pairs_length (ps : List (Int × Int)) : (pairs ps).length = 2 * ps.length := by
  induction ps with
  | nil => rfl
  | cons p ps ih => rw [pairs_cons]; simp only [List.length_cons, ih]; omega
theorem pairs_append (ps qs : List (Int × Int)) : pairs (ps ++ qs) = pairs ps ++ pairs qs := by simp [pairs]
theorem pairs_get1 {ps : List (Int × Int)} {k : Nat} (h : k < ps.length) : (pairs ps)[k * 2]? = some (.int .i64 (g1 ps k)) := by
  induction ps generalizing k with
  | nil => simp at h
  | cons p ps ih =>
    rw [pairs_cons]
    cases k with
    | zero => simp [g1]
    | succ k =>
      have := ih (k := k) (by simpa using h)
      rw [show (k + 1) * 2 = k * 2 + 1 + 1 by omega, List.getElem?_cons_succ, List.getElem?_cons_succ, this]
      simp [g1]
theorem pairs_get2 {ps : List (Int × Int)} {k : Nat} (h : k < ps.length) : (pairs ps)[k * 2 + 1]? = some (.int .i64 (g2 ps k)) := by
  induction ps generalizing k with
  | nil => simp at h
  | cons p ps ih =>
    rw [pairs_cons]
    cases k with
    | zero => simp [g2]
    | succ k =>
      have := ih (k := k) (by simpa using h)
      rw [show (k + 1) * 2 + 1 = k * 2 + 1 + 1 + 1 by omega, List.getElem?_cons_succ, List.getElem?_cons_succ, this]
      simp [g2]
theorem pairs_set1 (ps : List (Int × Int)) (k : Nat) (z : Int) (h : k < ps.length) : (pairs ps).set (k * 2) (.int .i64 z) = pairs (ps.set k (z, g2 ps k)) := by
  induction ps generalizing k with
  | nil => simp at h
  | cons p ps ih =>
    cases k with
    | zero => simp [pairs_cons, g2]
    | succ k =>
      have := ih k (by simpa using h)
      rw [List.set_cons_succ, pairs_cons, pairs_cons, show (k + 1) * 2 = k * 2 + 1 + 1 by omega, List.set_cons_succ, List.set_cons_succ, this]
      simp [g2]
theorem pairs_set2 (ps : List (Int × Int)) (k : Nat) (z : Int) (h : k < ps.length) : (pairs ps).set (k * 2 + 1) (.int .i64 z) = pairs (ps.set k (g1 ps k, z)) := by
  induction ps generalizing k with
  | nil => simp at h
  | cons p ps ih =>
    cases k with
    | zero => simp [pairs_cons, g1]
    | succ k =>
      have := ih k (by simpa using h)
      rw [List.set_cons_succ, pairs_cons, pairs_cons, show (k + 1) * 2 + 1 = k * 2 + 1 + 1 + 1 by omega, List.set_cons_succ, List.set_cons_succ, this]
      simp [g1]
theorem g1_set (ps : List (Int × Int)) (k j : Nat) (p : Int × Int) (h : k < ps.length) : g1 (ps.set k p) j = if k = j then p.1 else g1 ps j := by
  simp only [g1, List.getD_eq_getElem?_getD, List.getElem?_set]
  split <;> simp_all
theorem g2_set (ps : List (Int × Int)) (k j : Nat) (p : Int × Int) (h : k < ps.length) : g2 (ps.set k p) j = if k = j then p.2 else g2 ps j := by
  simp only [g2, List.getD_eq_getElem?_getD, List.getElem?_set]
  split <;> simp_all
theorem pairs_inj {ps qs : List (Int × Int)} (h : ps.length = qs.length) (h1 : ∀ j, j < qs.length → g1 ps j = g1 qs j) (h2 : ∀ j, j < qs.length → g2 ps j = g2 qs j) : ps = qs := by
  apply List.ext_getElem h
  intro i hi hi'
  have a1 := h1 i hi'
  have a2 := h2 i hi'
  simp only [g1, g2, List.getD_eq_getElem?_getD, List.getElem?_eq_getElem hi, List.getElem?_eq_getElem hi', Option.getD_some] at a1 a2
  exact Prod.ext a1 a2

theorem Rd.pair_at {w : World} {A : Option Addr} {ps : List (Int × Int)} (h : Rd w A (pairs ps)) {k : Nat} (hk : k < ps.length) :
    ∃ b off, A = some ⟨b, off, none⟩ ∧ b < w.heap.size ∧ w.cell? ⟨b, off + k * 2, none⟩ = some (.int .i64 (g1 ps k)) ∧ w.cell? ⟨b, off + k * 2 + 1, none⟩ = some (.int .i64 (g2 ps k)) := by
  obtain ⟨b, off, e, hc⟩ := h (by rw [pairs_length]; omega)
  have a1 := hc (k * 2) (by rw [pairs_length]; omega)
  have a2 := hc (k * 2 + 1) (by rw [pairs_length]; omega)
  rw [pairs_get1 hk] at a1
  rw [pairs_get2 hk, ← Nat.add_assoc] at a2
  exact ⟨b, off, e, World.block_lt_of_cell? w _ a1, a1, a2⟩

/-- An own row of pairs: the cells of the pair k, that they are not frozen, and what is owned behind a store of both. -/
theorem Ow.pair_at {w : World} {E : TypeId} {lo hi : Nat} {A : Option Addr} {ps : List (Int × Int)} (h : Ow w E lo hi A (pairs ps)) {k : Nat} (hk : k < ps.length) :
    ∃ g off, A = some ⟨g, off, none⟩ ∧ lo ≤ g ∧ g < hi ∧ g < w.heap.size ∧ w.cell? ⟨g, off + k * 2, none⟩ = some (.int .i64 (g1 ps k)) ∧ w.cell? ⟨g, off + k * 2 + 1, none⟩ = some (.int .i64 (g2 ps k)) ∧
      w.frozen? ⟨g, off + k * 2, none⟩ = false ∧ w.frozen? ⟨g, off + k * 2 + 1, none⟩ = false ∧
      (∀ x y, Ow ((w.setCell ⟨g, off + k * 2, none⟩ (.int .i64 x)).setCell ⟨g, off + k * 2 + 1, none⟩ (.int .i64 y)) E lo hi (some ⟨g, off, none⟩) (pairs (ps.set k (x, y)))) ∧
      (∀ x, Ow (w.setCell ⟨g, off + k * 2, none⟩ (.int .i64 x)) E lo hi (some ⟨g, off, none⟩) (pairs (ps.set k (x, g2 ps k)))) ∧
      (∀ y, Ow (w.setCell ⟨g, off + k * 2 + 1, none⟩ (.int .i64 y)) E lo hi (some ⟨g, off, none⟩) (pairs (ps.set k (g1 ps k, y)))) := by
  obtain ⟨g, off, e, hg1, hg2, hg3, hc, hf, hs⟩ := h.cell_at (k := k * 2) (by rw [pairs_length]; omega)
  obtain ⟨g', off', e', _, _, _, hc', hf', hs'⟩ := h.cell_at (k := k * 2 + 1) (by rw [pairs_length]; omega)
  rw [e] at e'
  injection e' with e'
  injection e' with e1 e2
  subst e1 e2
  rw [pairs_get1 hk] at hc
  rw [pairs_get2 hk] at hc'
  simp only [← Nat.add_assoc] at hc' hf' hs'
  refine ⟨g, off, e, hg1, hg2, hg3, hc, hc', hf, hf', fun x y => ?_, fun x => by rw [← pairs_set1 _ _ _ hk]; exact hs _, fun y => by rw [← pairs_set2 _ _ _ hk]; exact hs' _⟩
  have h1 := hs (.int .i64 x)
  rw [pairs_set1 _ _ _ hk] at h1
  obtain ⟨g', off', e', _, _, _, _, _, hs2⟩ := h1.cell_at (k := k * 2 + 1) (by rw [pairs_length, List.length_set]; omega)
  injection e' with e'
  injection e' with e1 e2
  subst e1 e2
  have h2 := hs2 (.int .i64 y)
  rw [pairs_set2 _ _ _ (by rw [List.length_set]; exact hk), ← Nat.add_assoc, List.set_set] at h2
  rw [g1_set _ _ _ _ hk, if_pos rfl] at h2
  exact h2

def Agree2 (xs ys : List (Int × Int)) (k : Nat) : Prop := ∀ j, j < k → g1 xs j = g1 ys j ∧ g2 xs j = g2 ys j
theorem Agree2.step {xs ys : List (Int × Int)} {k : Nat} (h : Agree2 xs ys k) (e1 : g1 xs k = g1 ys k) (e2 : g2 xs k = g2 ys k) : Agree2 xs ys (k + 1) := fun j hj => by
  by_cases hjk : j = k
  · rw [hjk]; exact ⟨e1, e2⟩
  · exact h j (by omega)

/-- 1, 2, 3 .. laid into both parts -/
def marks2 (k : Int) (n : Nat) : List (Int × Int) := (List.range n).map fun i => (k + 2 * (i : Nat), k + 2 * (i : Nat) + 1)
@[simp] theorem marks2_length (k : Int) (n : Nat) : (marks2 k n).length = n := by simp [marks2]
theorem g1_marks {k : Int} {n j : Nat} (h : j < n) : g1 (marks2 k n) j = k + 2 * (j : Nat) := by simp [marks2, g1, h]
theorem g2_marks {k : Int} {n j : Nat} (h : j < n) : g2 (marks2 k n) j = k + 2 * (j : Nat) + 1 := by simp [marks2, g2, h]

theorem made2_get (n i : Nat) (h : i < n * 2) : (madeCells #[Value.int .i64 0, .int .i64 0] (n * 2))[i]? = some (.int .i64 0) := by
  have e : i % 2 = 0 ∨ i % 2 = 1 := by omega
  rcases e with e | e <;> simp [madeCells, h, e]
theorem pairs_replicate (n : Nat) : pairs (List.replicate n (0, 0)) = List.replicate (n * 2) (.int .i64 0) := by
  induction n with
  | zero => rfl
  | succ n ih => rw [List.replicate_succ, pairs_cons, ih, show (n + 1) * 2 = n * 2 + 1 + 1 by omega, List.replicate_succ, List.replicate_succ]
theorem Ow.made2 (w : World) (E : TypeId) (n : Nat) : Ow (w.alloc (.cells (madeCells #[Value.int .i64 0, .int .i64 0] (n * 2)) E)) E w.heap.size (w.heap.size + 1) (some ⟨w.heap.size, 0, none⟩) (pairs (List.replicate n (0, 0))) := by
  intro _
  rw [pairs_replicate]
  refine ⟨w.heap.size, 0, _, rfl, Nat.le_refl _, Nat.lt_succ_self _, heap_alloc_new w _, fun i hi => ?_⟩
  simp only [List.length_replicate] at hi
  rw [Nat.zero_add, made2_get n i hi]
  simp [hi]
end Go.Proofs.Ytopneihamefohaa
