/-
  Contracts of the helpers over []int: a copy, equality, marks.
-/
import Derived.Test.YtahomhldochodaaMem
import Derived.Deep.AppendLies
namespace Go.Proofs.Ytahomhldochodaa
set_option linter.unusedVariables false
open Go.RowKit

theorem info_int : (Try.prog.info? 3).map (fun i => (i.zero, i.size, i.bytes)) = some (some (.int .i64 0), 1, 8) := by kernel_rfl

theorem gi_set (O : List Int) (k j : Nat) (z : Int) (hk : k < O.length) : gi (O.set k z) j = if k = j then z else gi O j := by
  simp only [gi, List.getD_eq_getElem?_getD, List.getElem?_set]
  split <;> simp_all
theorem ext_gi {O zs : List Int} (hl : O.length = zs.length) (h : ∀ j, j < zs.length → gi O j = gi zs j) : O = zs := by
  apply List.ext_getElem hl
  intro i h1 h2
  have := h i h2
  simpa [gi, List.getD_eq_getElem?_getD, h1, h2] using this
theorem made_get (z : Value) (n i : Nat) (h : i < n) : (madeCells #[z] n)[i]? = some z := by
  simp [madeCells, h, Nat.mod_one]
theorem Ow.made (w : World) (E : TypeId) (z : Value) (n : Nat) : Ow (w.alloc (.cells (madeCells #[z] n) E)) E w.heap.size (w.heap.size + 1) (some ⟨w.heap.size, 0, none⟩) (List.replicate n z) := by
  intro _
  refine ⟨w.heap.size, 0, _, rfl, Nat.le_refl _, Nat.lt_succ_self _, heap_alloc_new w _, fun i hi => ?_⟩
  simp only [List.length_replicate] at hi
  rw [Nat.zero_add, made_get z n i hi]
  simp [hi]
theorem ints_replicate (n : Nat) (z : Int) : ints (List.replicate n z) = List.replicate n (.int .i64 z) := by simp [ints]

/-- a copy in the making: the first k are copied -/
def CopyRel (w wr : World) (lo : Nat) (A : Option Addr) (zs : List Int) (k : Nat) : Prop :=
  ∃ O : List Int, O.length = zs.length ∧ (∀ j, j < k → gi O j = gi zs j) ∧ Ow wr 3 lo (lo + 1) A (ints O) ∧ Below lo w wr ∧ wr.heap.size = lo + 1

theorem CopyRel.step {w wr : World} {lo g off : Nat} {zs : List Int} {k : Nat} {O : List Int} (hk : k < zs.length) (h1 : O.length = zs.length) (h2 : ∀ j, j < k → gi O j = gi zs j)
    (h3 : ∀ u, Ow (wr.setCell ⟨g, off + k, none⟩ u) 3 lo (lo + 1) (some ⟨g, off, none⟩) ((ints O).set k u)) (h4 : Below lo w wr) (hs : wr.heap.size = lo + 1) (hg : lo ≤ g) :
    CopyRel w (wr.setCell ⟨g, off + k, none⟩ (.int .i64 (gi zs k))) lo (some ⟨g, off, none⟩) zs (k + 1) := by
  refine ⟨O.set k (gi zs k), by simpa using h1, fun j hj => ?_, by rw [← ints_set]; exact h3 _, h4.setCell hg _, by simpa [World.setCell] using hs⟩
  rw [gi_set _ _ _ _ (by omega)]
  split
  · subst_vars; rfl
  · exact h2 j (by omega)

theorem CopyRel.start (w : World) (zs : List Int) : CopyRel w (w.alloc (.cells (madeCells #[.int .i64 0] zs.length) 3)) w.heap.size (some ⟨w.heap.size, 0, none⟩) zs 0 :=
  ⟨List.replicate zs.length 0, by simp, fun j hj => absurd hj (by omega), by rw [ints_replicate]; exact Ow.made w _ _ _, (Below.refl _ _).alloc (Nat.le_refl _) _, by simp⟩


def Agree (xs ys : List Int) (k : Nat) : Prop := ∀ j, j < k → gi xs j = gi ys j
theorem Agree.step {xs ys : List Int} {k : Nat} (h : Agree xs ys k) (e : gi xs k = gi ys k) : Agree xs ys (k + 1) := fun j hj => by
  by_cases hjk : j = k
  · rw [hjk]; exact e
  · exact h j (by omega)
theorem below_drewN {B : Nat} {a w : World} (h : Below B a w) (n : Nat) : Below B a (w.drewN n) := ⟨h.os, h.tape, h.output, h.size, h.block⟩



def marks (k : Int) (n : Nat) : List Int := (List.range n).map fun i => k + (i : Nat)
@[simp] theorem marks_length (k : Int) (n : Nat) : (marks k n).length = n := by simp [marks]
theorem gi_marks {k : Int} {n j : Nat} (h : j < n) : gi (marks k n) j = k + (j : Nat) := by simp [marks, gi, h]

/-- marks in the making: the first j are laid -/
def MarkRel (w wr : World) (lo hi : Nat) (A : Option Addr) (k : Int) (n j : Nat) : Prop :=
  ∃ O : List Int, O.length = n ∧ (∀ i, i < j → gi O i = k + (i : Nat)) ∧ Ow wr 3 lo hi A (ints O) ∧ Only w wr lo hi ∧ wr.heap.size = w.heap.size

theorem MarkRel.step {w wr : World} {lo hi g off : Nat} {k : Int} {n j : Nat} {O : List Int} (hj : j < n) (h1 : O.length = n) (h2 : ∀ i, i < j → gi O i = k + (i : Nat))
    (h3 : ∀ u, Ow (wr.setCell ⟨g, off + j, none⟩ u) 3 lo hi (some ⟨g, off, none⟩) ((ints O).set j u)) (h4 : Only w wr lo hi) (hs : wr.heap.size = w.heap.size) (hl : lo ≤ g) (hg : g < hi) :
    MarkRel w (wr.setCell ⟨g, off + j, none⟩ (.int .i64 (k + (j : Nat)))) lo hi (some ⟨g, off, none⟩) k n (j + 1) := by
  refine ⟨O.set j (k + (j : Nat)), by simpa using h1, fun i hi' => ?_, by rw [← ints_set]; exact h3 _, h4.setCell hl hg _, by simpa [World.setCell] using hs⟩
  rw [gi_set _ _ _ _ (by omega)]
  split
  · subst_vars; rfl
  · exact h2 i (by omega)



/- appends -/
theorem own_da {w : World} {base : Nat} {e : TypeId} {size : Nat} {v : Value} {n : Nat} {xs : List Value} (h : w.ownsRow base e size v n xs) (o : Obj) : (w.alloc o).drew.ownsRow base e size v n xs := h.alloc o
theorem news_da (w : World) (x : Value) (E : TypeId) : ∀ j u, [x][j]? = some u → (w.alloc (.cells #[x] E)).drew.cell? ((⟨w.heap.size, 0, none⟩ : Addr).add j) = some u :=
  World.news_of_block (w := (w.alloc (.cells #[x] E)).drew) (cs := #[x]) (heap_alloc_new w _)
theorem base_da {w wr : World} {o : Obj} (h : w.heap.size ≤ wr.heap.size) : w.heap.size ≤ (wr.alloc o).drew.heap.size := by
  show _ ≤ (wr.heap.push o).size
  simp
  omega
theorem one_int (x : Int) : ∀ u ∈ [Value.int .i64 x], u.oneCell' = true := by simp [Value.oneCell']

theorem ints_append (xs ys : List Int) : ints (xs ++ ys) = ints xs ++ ints ys := by simp [ints]
theorem gi_append_left {xs : List Int} {j : Nat} (h : j < xs.length) (ys : List Int) : gi (xs ++ ys) j = gi xs j := by simp [gi, List.getElem?_append, h]
theorem gi_append_last (xs : List Int) (y : Int) : gi (xs ++ [y]) xs.length = y := by simp [gi]
theorem bel_append {w wr w1 : World} {o : Obj} {row : Option Nat} (h : Below w.heap.size w wr) (hg : (wr.alloc o).drew.grownBy w1 row) (hr : ∀ k, row = some k → w.heap.size ≤ k) : Below w.heap.size w w1 :=
  ((h.alloc h.size o).drew).grown hg (base_da h.size) hr

theorem news_a (w : World) (x : Value) (E : TypeId) : ∀ j u, [x][j]? = some u → (w.alloc (.cells #[x] E)).cell? ((⟨w.heap.size, 0, none⟩ : Addr).add j) = some u :=
  World.news_of_block (w := w.alloc (.cells #[x] E)) (cs := #[x]) (heap_alloc_new w _)
theorem Rd.olds {w : World} {A : Option Addr} {xs : List Value} (h : Rd w A xs) : ∀ b, A = some b → ∀ j u, xs[j]? = some u → w.cell? (b.add j) = some u := by
  intro b hb j u hu
  have hj : j < xs.length := (List.getElem?_eq_some_iff.1 hu).1
  obtain ⟨b', off, e, hc⟩ := h (by omega)
  rw [hb] at e
  injection e with e
  subst e
  have hadd : (⟨b', off, none⟩ : Addr).add j = ⟨b', off + j, none⟩ := by unfold Addr.add; split <;> simp_all
  rw [hadd, hc j hj, hu]
theorem Rd.nil_len {w : World} {A : Option Addr} {xs : List Value} (h : Rd w A xs) (hA : A = none) : xs.length = 0 := by
  rcases Nat.eq_zero_or_pos xs.length with h0 | h0
  · exact h0
  · obtain ⟨b, off, e, _⟩ := h h0
    rw [hA] at e
    cases e
end Go.Proofs.Ytahomhldochodaa
