/-
  Lists of structs of two numbers in the making, by appends; words for what lies in new memory. No program is walked here.
-/
import Derived.Test.YtopneihamefohaaPair
import Derived.Deep.AppendLies
namespace Go.Proofs.Ytopneihamefohaa
set_option linter.unusedVariables false
open Go.RowKit

theorem g1_rng (f : Nat → Int × Int) (n i : Nat) (h : i < n) : g1 ((List.range n).map f) i = (f i).1 := by simp [g1, h]
theorem g2_rng (f : Nat → Int × Int) (n i : Nat) (h : i < n) : g2 ((List.range n).map f) i = (f i).2 := by simp [g2, h]
def upto (f : Nat → Int × Int) (k : Nat) : List (Int × Int) := (List.range k).map f
@[simp] theorem upto_length (f : Nat → Int × Int) (k : Nat) : (upto f k).length = k := by simp [upto]
theorem upto_succ (f : Nat → Int × Int) (k : Nat) : pairs (upto f (k + 1)) = pairs (upto f k) ++ [.int .i64 (f k).1, .int .i64 (f k).2] := by
  simp [upto, List.range_succ, pairs]
theorem g1_upto (f : Nat → Int × Int) {k j : Nat} (h : j < k) : g1 (upto f k) j = (f j).1 := g1_rng f k j h
theorem g2_upto (f : Nat → Int × Int) {k j : Nat} (h : j < k) : g2 (upto f k) j = (f j).2 := g2_rng f k j h
theorem upto_congr {f g : Nat → Int × Int} {k : Nat} (h : ∀ j, j < k → f j = g j) : upto f k = upto g k :=
  List.map_congr_left fun j hj => h j (by simpa using hj)
theorem upto_set (f g : Nat → Int × Int) {n k : Nat} (hk : k < n) (h : ∀ j, j < n → j ≠ k → f j = g j) : (upto f n).set k (g k) = upto g n := by
  refine pairs_inj (by simp) (fun j hj => ?_) (fun j hj => ?_)
  · rw [g1_set _ _ _ _ (by simpa using hk), g1_upto g (by simpa using hj)]
    split
    · subst_vars; rfl
    · rw [g1_upto _ (by simpa using hj), h j (by simpa using hj) (by omega)]
  · rw [g2_set _ _ _ _ (by simpa using hk), g2_upto g (by simpa using hj)]
    split
    · subst_vars; rfl
    · rw [g2_upto _ (by simpa using hj), h j (by simpa using hj) (by omega)]

theorem news2 (w : World) (x y : Value) (E : TypeId) : ∀ j u, [x, y][j]? = some u → (w.alloc (.cells #[x, y] E)).cell? ((⟨w.heap.size, 0, none⟩ : Addr).add j) = some u :=
  World.news_of_block (w := w.alloc (.cells #[x, y] E)) (cs := #[x, y]) (heap_alloc_new w _)
theorem one2 (x y : Int) : ∀ u ∈ [Value.int .i64 x, Value.int .i64 y], u.oneCell' = true := by simp [Value.oneCell']
theorem base_a {w wr : World} {o : Obj} (h : w.heap.size ≤ wr.heap.size) : w.heap.size ≤ (wr.alloc o).heap.size := by simp; omega
theorem bel_app {w wr w1 : World} {o : Obj} {row : Option Nat} (h : Below w.heap.size w wr) (hg : (wr.alloc o).grownBy w1 row) (hr : ∀ k, row = some k → w.heap.size ≤ k) : Below w.heap.size w w1 :=
  (h.alloc h.size o).grown hg (base_a h.size) hr

/-- a list of structs in the making, by appends -/
def ApG (w wr : World) (E : TypeId) (v : Value) (f : Nat → Int × Int) (k : Nat) : Prop := wr.ownsRow w.heap.size E 2 v k (pairs (upto f k)) ∧ Below w.heap.size w wr
theorem ApG.step {w wr w1 : World} {E : TypeId} {v v' : Value} {o : Obj} {f : Nat → Int × Int} {k : Nat} (h : ApG w wr E v f k)
    (hown : w1.ownsRow w.heap.size E 2 v' (k + 1) (pairs (upto f k) ++ [.int .i64 (f k).1, .int .i64 (f k).2])) (hg : (wr.alloc o).grownBy w1 v.ownBlock) : ApG w w1 E v' f (k + 1) :=
  ⟨by rw [upto_succ]; exact hown, bel_app h.2 hg (fun q hq => (h.1.lt q hq).1)⟩

theorem bel_cell {n : Nat} {w w' : World} {b o : Nat} {v : Value} (h : Below n w w') (hb : b < n) (hc : w.cell? ⟨b, o, none⟩ = some v) : w'.cell? ⟨b, o, none⟩ = some v := (h.cell (p := ⟨b, o, none⟩) hb).trans hc
theorem bel_free {n : Nat} {w w' : World} {b o : Nat} (h : Below n w w') (hb : b < n) (hc : w.frozen? ⟨b, o, none⟩ = false) : w'.frozen? ⟨b, o, none⟩ = false := (h.frozen (p := ⟨b, o, none⟩) hb).trans hc

theorem ApG.stepD {w wr w1 : World} {E : TypeId} {v v' : Value} {o : Obj} {f : Nat → Int × Int} {k : Nat} (h : ApG w wr E v f k)
    (hown : w1.ownsRow w.heap.size E 2 v' (k + 1) (pairs (upto f k) ++ [.int .i64 (f k).1, .int .i64 (f k).2])) (hg : (wr.alloc o).drew.grownBy w1 v.ownBlock) : ApG w w1 E v' f (k + 1) :=
  ⟨by rw [upto_succ]; exact hown, bel_append h.2 hg (fun q hq => (h.1.lt q hq).1)⟩
theorem news_da2 (w : World) (x y : Value) (E : TypeId) : ∀ j u, [x, y][j]? = some u → (w.alloc (.cells #[x, y] E)).drew.cell? ((⟨w.heap.size, 0, none⟩ : Addr).add j) = some u :=
  World.news_of_block (w := (w.alloc (.cells #[x, y] E)).drew) (cs := #[x, y]) (heap_alloc_new w _)
/-- A slice of structs of two numbers and a bool: the slice lies in new memory. -/
def RetG (w : World) (E : TypeId) (r : List (Int × Int) × Bool) (e : Ending) (w' : World) : Prop :=
  ∃ A c, e = .returned (.tuple #[.slice A r.1.length c, .bool r.2]) ∧ r.1.length ≤ c ∧ Ow w' E w.heap.size w'.heap.size A (pairs r.1) ∧ Below w.heap.size w w'
theorem RetG.none_ {w w' : World} {E : TypeId} (A : Option Addr) (c : Nat) (h : Below w.heap.size w w') : RetG w E ([], false) (.returned (.tuple #[.slice A 0 c, .bool false])) w' :=
  ⟨A, c, rfl, Nat.zero_le _, Ow.none_, h⟩


/-- a row is kept where its block is as it was -/
theorem own_same {w w' : World} {base : Nat} {e : TypeId} {size : Nat} {v : Value} {n : Nat} {xs : List Value} (h : w.ownsRow base e size v n xs) (hk : ∀ k, v.ownBlock = some k → w'.heap[k]? = w.heap[k]?) : w'.ownsRow base e size v n xs := by
  refine ⟨h.1, ?_⟩
  rcases h.2 with ⟨hv, hn⟩ | ⟨g, cap, cur, hv, hb, hh, hn, hm, hs, ht⟩
  · exact .inl ⟨hv, hn⟩
  · exact .inr ⟨g, cap, cur, hv, hb, by rw [hk g (by rw [hv]; rfl)]; exact hh, hn, hm, hs, ht⟩
theorem ApG.only {w wr w1 : World} {E : TypeId} {v : Value} {f : Nat → Int × Int} {k lo hi : Nat} (h : ApG w wr E v f k) (ho : Only wr w1 lo hi) (hl : wr.heap.size ≤ lo) (hw : w.heap.size ≤ wr.heap.size) : ApG w w1 E v f k :=
  ⟨own_same h.1 (fun q hq => ho.2.2.2.2 q (h.1.lt q hq).2 (.inl (Nat.lt_of_lt_of_le (h.1.lt q hq).2 hl))), ho.below h.2 (Nat.le_trans hw hl) (Nat.le_refl _)⟩
theorem ApG.kept {w wm wr : World} {o : Obj} {E : TypeId} {v : Value} {f : Nat → Int × Int} {k : Nat} (h : ApG w wm E v f k) (ho : Only (wm.alloc o) wr wm.heap.size (wm.heap.size + 1)) : ApG w wr E v f k :=
  ⟨own_same h.1 (fun q hq => by rw [ho.2.2.2.2 q (by have := (h.1.lt q hq).2; simp; omega) (.inl (h.1.lt q hq).2), Below.heap_alloc wm o q (h.1.lt q hq).2]), ho.below (h.2.alloc h.2.size o) h.2.size (Nat.le_refl _)⟩
/-- a block of two cells, behind two stores -/
theorem set_two {w : World} {b : Nat} {x y u v : Value} {E : TypeId} (h : w.heap[b]? = some (.cells #[x, y] E (0, 0))) : ((w.setCell ⟨b, 0, none⟩ u).setCell ⟨b, 1, none⟩ v).heap[b]? = some (.cells #[u, v] E (0, 0)) := by
  simp [World.setCell, Array.getElem?_modify, h]
theorem two_cells {w : World} {b : Nat} {x y : Value} {E : TypeId} (h : w.heap[b]? = some (.cells #[x, y] E (0, 0))) : w.cell? ⟨b, 0, none⟩ = some x ∧ w.cell? ⟨b, 1, none⟩ = some y ∧ w.frozen? ⟨b, 0, none⟩ = false ∧ w.frozen? ⟨b, 1, none⟩ = false ∧ b < w.heap.size :=
  ⟨by rw [cell_of_row w b 0 _ _ _ h]; rfl, by rw [cell_of_row w b 1 _ _ _ h]; rfl, by simp [World.frozen?, h], by simp [World.frozen?, h], (Array.getElem?_eq_some_iff.1 h).1⟩
theorem fin_two {w1 : World} {b : Nat} {x y u v : Value} {E : TypeId} (h : w1.heap[b]? = some (.cells #[x, y] E (0, 0))) (o : Obj) :
    (((w1.setCell ⟨b, 0, none⟩ u).setCell ⟨b, 1, none⟩ v).alloc o).heap[b]? = some (.cells #[u, v] E (0, 0)) ∧ (((w1.setCell ⟨b, 0, none⟩ u).setCell ⟨b, 1, none⟩ v).alloc o).cell? ⟨b, 0, none⟩ = some u ∧ (((w1.setCell ⟨b, 0, none⟩ u).setCell ⟨b, 1, none⟩ v).alloc o).cell? ⟨b, 1, none⟩ = some v := by
  have h2 := set_two (u := u) (v := v) h
  have h3 : (((w1.setCell ⟨b, 0, none⟩ u).setCell ⟨b, 1, none⟩ v).alloc o).heap[b]? = some (.cells #[u, v] E (0, 0)) := by
    rw [Below.heap_alloc _ o b (Array.getElem?_eq_some_iff.1 h2).1]; exact h2
  obtain ⟨c1, c2, _⟩ := two_cells h3
  exact ⟨h3, c1, c2⟩
theorem box_two {w : World} {b : Nat} {x y : Value} {E : TypeId} (h : w.heap[b]? = some (.cells #[x, y] E (0, 0))) (u : Value) : w.cell? ⟨b, 0, none⟩ = some x ∧ w.cell? ⟨b, 1, none⟩ = some y ∧ w.frozen? ⟨b, 0, none⟩ = false ∧ w.frozen? ⟨b, 1, none⟩ = false ∧ b < w.heap.size ∧ (w.setCell ⟨b, 0, none⟩ u).cell? ⟨b, 0, none⟩ = some u := by
  obtain ⟨c0, c1, f0, f1, hl⟩ := two_cells h
  exact ⟨c0, c1, f0, f1, hl, World.cell?_setCell_same' _ _ _ (by rw [c0]; rfl)⟩
end Go.Proofs.Ytopneihamefohaa
