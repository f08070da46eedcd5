/-
  Words for slices in memory: 'Rd': a slice reads as a list of cells; 'Ow': a slice that lies in a block of the call's own, none of it frozen; how both are kept over 'Below' and 'grownBy'. No program is walked here.
-/
import Derived.Test.YtopneihamefohaaProg
import Derived.WalkKit
import Derived.OwnWalk
import Derived.Lib.Hide
import Derived.Deep.QuietTactic
import Derived.BigQuiet
import Derived.Deep.Draws
import Derived.Deep.OwnRows
import Derived.Deep.Cut
import Derived.WalkSpells
import Derived.WalkLawsBesides
namespace Go.Proofs.Ytopneihamefohaa
set_option linter.unusedVariables false
open Go.RowKit

/-- The slice with address A reads as the cells xs. -/
def Rd (w : World) (A : Option Addr) (xs : List Value) : Prop :=
  0 < xs.length → ∃ b off, A = some ⟨b, off, none⟩ ∧ ∀ i, i < xs.length → w.cell? ⟨b, off + i, none⟩ = xs[i]?

/-- The slice with address A lies in a block from lo on and below hi, of element type E, none of it frozen, and reads as xs. -/
def Ow (w : World) (E : TypeId) (lo hi : Nat) (A : Option Addr) (xs : List Value) : Prop :=
  0 < xs.length → ∃ g off cur, A = some ⟨g, off, none⟩ ∧ lo ≤ g ∧ g < hi ∧ w.heap[g]? = some (.cells cur E (0, 0)) ∧ ∀ i, i < xs.length → cur[off + i]? = xs[i]?

/-- element k -/
def gi (zs : List Int) (k : Nat) : Int := zs.getD k 0
def gb (zs : List Bool) (k : Nat) : Bool := zs.getD k false
/-- Bytes at an address: each is some number below 256. -/
def Bytes (w : World) (A : Option Addr) (n : Nat) (hi : Nat) : Prop :=
  0 < n → ∃ b off, A = some ⟨b, off, none⟩ ∧ b < hi ∧ ∀ i, i < n → ∃ v : Int, 0 ≤ v ∧ v < 256 ∧ w.cell? ⟨b, off + i, none⟩ = some (.int .u8 v)
def ints (zs : List Int) : List Value := zs.map (Value.int .i64)
def bools (bs : List Bool) : List Value := bs.map Value.bool

@[simp] theorem ints_length (zs : List Int) : (ints zs).length = zs.length := by simp [ints]
@[simp] theorem bools_length (zs : List Bool) : (bools zs).length = zs.length := by simp [bools]
theorem ints_get {zs : List Int} {k : Nat} (h : k < zs.length) : (ints zs)[k]? = some (.int .i64 (gi zs k)) := by
  simp [ints, gi, h]
theorem bools_get {zs : List Bool} {k : Nat} (h : k < zs.length) : (bools zs)[k]? = some (.bool (gb zs k)) := by
  simp [bools, gb, h]

section
variable {w w' : World} {A : Option Addr} {xs : List Value} {E : TypeId} {lo hi : Nat}

theorem Rd.none_ : Rd w A [] := fun h => absurd h (by simp)
theorem Ow.none_ : Ow w E lo hi A [] := fun h => absurd h (by simp)

theorem Rd.below (h : Rd w A xs) {B : Nat} (hb : Below B w w') (hB : w.heap.size ≤ B) : Rd w' A xs := by
  intro h0
  obtain ⟨b, off, e, hc⟩ := h h0
  refine ⟨b, off, e, fun i hi => ?_⟩
  have h1 := hc i hi
  rw [List.getElem?_eq_getElem hi] at h1
  have hlt := World.block_lt_of_cell? w _ h1
  have h2 : w'.cell? ⟨b, off + i, none⟩ = w.cell? ⟨b, off + i, none⟩ := hb.cell (Nat.lt_of_lt_of_le hlt hB)
  rw [h2]
  exact hc i hi

theorem Ow.below (h : Ow w E lo hi A xs) {B : Nat} (hb : Below B w w') (hB : hi ≤ B) : Ow w' E lo hi A xs := by
  intro h0
  obtain ⟨g, off, cur, e, hlo, hhi, hh, hc⟩ := h h0
  exact ⟨g, off, cur, e, hlo, hhi, by rw [hb.block g (by omega)]; exact hh, hc⟩

theorem Ow.rd (h : Ow w E lo hi A xs) : Rd w A xs := by
  intro h0
  obtain ⟨g, off, cur, e, hlo, hhi, hh, hc⟩ := h h0
  exact ⟨g, off, e, fun i hi => by rw [cell_of_row w g (off + i) cur E (0, 0) hh]; exact hc i hi⟩

theorem Ow.mono (h : Ow w E lo hi A xs) {lo' hi' : Nat} (hl : lo' ≤ lo) (hh : hi ≤ hi') : Ow w E lo' hi' A xs := by
  intro h0
  obtain ⟨g, off, cur, e, hlo, hhi, r⟩ := h h0
  exact ⟨g, off, cur, e, by omega, by omega, r⟩

/-- Only what lies from lo' on and below hi' has turned: a slice elsewhere reads as it did. -/
def Only (w w' : World) (lo hi : Nat) : Prop :=
  w'.os = w.os ∧ w'.tape = w.tape ∧ w'.output = w.output ∧ w.heap.size ≤ w'.heap.size ∧ ∀ k, k < w.heap.size → (k < lo ∨ hi ≤ k) → w'.heap[k]? = w.heap[k]?

theorem Only.refl (w : World) (lo hi : Nat) : Only w w lo hi := ⟨rfl, rfl, rfl, Nat.le_refl _, fun _ _ _ => rfl⟩
theorem Only.trans {a b c : World} (h : Only a b lo hi) (k : Only b c lo hi) : Only a c lo hi :=
  ⟨k.1.trans h.1, k.2.1.trans h.2.1, k.2.2.1.trans h.2.2.1, Nat.le_trans h.2.2.2.1 k.2.2.2.1, fun i hi' hne => (k.2.2.2.2 i (Nat.lt_of_lt_of_le hi' h.2.2.2.1) hne).trans (h.2.2.2.2 i hi' hne)⟩
theorem Only.drew {a b : World} (h : Only a b lo hi) : Only a b.drew lo hi := h
theorem Only.drewN {a b : World} (h : Only a b lo hi) (n : Nat) : Only a (b.drewN n) lo hi := h
theorem Only.setCell {a b : World} (h : Only a b lo hi) {p : Addr} (hl : lo ≤ p.block) (hp : p.block < hi) (u : Value) : Only a (b.setCell p u) lo hi :=
  ⟨h.1, h.2.1, h.2.2.1, by simpa [World.setCell] using h.2.2.2.1, fun i hi' hne => (Below.heap_setCell b p u i (by omega)).trans (h.2.2.2.2 i hi' hne)⟩
theorem Only.mono {a b : World} (h : Only a b lo hi) {lo' hi' : Nat} (hl : lo' ≤ lo) (hh : hi ≤ hi') : Only a b lo' hi' :=
  ⟨h.1, h.2.1, h.2.2.1, h.2.2.2.1, fun i hi' hne => h.2.2.2.2 i hi' (by omega)⟩
theorem Only.setNew {a b : World} (h : Only a b lo hi) {p : Addr} (hp : a.heap.size ≤ p.block) (u : Value) : Only a (b.setCell p u) lo hi :=
  ⟨h.1, h.2.1, h.2.2.1, by simpa [World.setCell] using h.2.2.2.1, fun i hi' hne => (Below.heap_setCell b p u i (by omega)).trans (h.2.2.2.2 i hi' hne)⟩
theorem Only.alloc {a b : World} (h : Only a b lo hi) (o : Obj) : Only a (b.alloc o) lo hi :=
  ⟨h.1, h.2.1, h.2.2.1, by have := h.2.2.2.1; simp; omega, fun i hi' hne => (Below.heap_alloc b o i (Nat.lt_of_lt_of_le hi' h.2.2.2.1)).trans (h.2.2.2.2 i hi' hne)⟩
theorem Only.size {a b : World} (h : Only a b lo hi) : a.heap.size ≤ b.heap.size := h.2.2.2.1
theorem Only.of_below {a b : World} (h : Below a.heap.size a b) (lo hi : Nat) : Only a b lo hi :=
  ⟨h.os, h.tape, h.output, h.size, fun i hi' _ => h.block i hi'⟩
/-- If only blocks of the call's own have turned, nothing below them has. -/
theorem Only.below {a b c : World} (h : Only b c lo hi) {B : Nat} (hb : Below B a b) (hB : B ≤ lo) (hs : B ≤ a.heap.size) : Below B a c :=
  ⟨h.1.trans hb.os, h.2.1.trans hb.tape, h.2.2.1.trans hb.output, Nat.le_trans hb.size h.2.2.2.1, fun k hk => (h.2.2.2.2 k (Nat.lt_of_lt_of_le (by omega : k < a.heap.size) hb.size) (.inl (by omega))).trans (hb.block k hk)⟩

theorem Ow.only (h : Ow w E lo hi A xs) {l' h' : Nat} (ho : Only w w' l' h') (hd : hi ≤ l' ∨ h' ≤ lo) : Ow w' E lo hi A xs := by
  intro h0
  obtain ⟨g, off, cur, e, hlo, hhi, hh, hc⟩ := h h0
  have hlt : g < w.heap.size := (Array.getElem?_eq_some_iff.1 hh).1
  exact ⟨g, off, cur, e, hlo, hhi, by rw [ho.2.2.2.2 g hlt (by omega)]; exact hh, hc⟩

theorem bel_trans {a b c : World} (h : Below a.heap.size a b) (k : Below b.heap.size b c) : Below a.heap.size a c := h.trans (k.mono h.size)

/-- What the call owns by 'ownsRow' is a slice of its own. -/
theorem Ow.of_own {n cap size : Nat} (h : w.ownsRow lo E size (.slice A n cap) n xs) : Ow w E lo w.heap.size A xs := by
  intro h0
  rcases h.2 with ⟨hv, hn⟩ | ⟨g, cap', cur, hv, hb, hh, hn, hm, hs, ht⟩
  · have := h.1
    rw [hn] at this
    simp at this
    simp [this] at h0
  · have hA : A = some ⟨g, 0, none⟩ := by injection hv
    subst hA
    refine ⟨g, 0, cur, rfl, hb, (Array.getElem?_eq_some_iff.1 hh).1, hh, fun i hi => ?_⟩
    rw [← ht, List.getElem?_take, if_pos (by rw [← h.1]; exact hi)]
    simp
end

/-- What 'ownsRow' says of the value. -/
theorem own_shape {w : World} {base : Nat} {E : TypeId} {size n : Nat} {v : Value} {xs : List Value} (h : w.ownsRow base E size v n xs) : ∃ A cap, v = .slice A n cap ∧ n ≤ cap ∧ cap ≤ maxLen := by
  rcases h.2 with ⟨rfl, rfl⟩ | ⟨g, cap, cur, rfl, _, _, hn, hm, _⟩
  · exact ⟨none, 0, rfl, by omega, by simp [maxLen]⟩
  · exact ⟨_, _, rfl, hn, hm⟩

theorem Rd.int_at {w : World} {A : Option Addr} {zs : List Int} (h : Rd w A (ints zs)) {k : Nat} (hk : k < zs.length) :
    ∃ b off, A = some ⟨b, off, none⟩ ∧ b < w.heap.size ∧ w.cell? ⟨b, off + k, none⟩ = some (.int .i64 (gi zs k)) := by
  obtain ⟨b, off, e, hc⟩ := h (by simp; omega)
  have h1 := hc k (by simpa using hk)
  rw [ints_get hk] at h1
  exact ⟨b, off, e, World.block_lt_of_cell? w _ h1, h1⟩

theorem Rd.bool_at {w : World} {A : Option Addr} {zs : List Bool} (h : Rd w A (bools zs)) {k : Nat} (hk : k < zs.length) :
    ∃ b off, A = some ⟨b, off, none⟩ ∧ b < w.heap.size ∧ w.cell? ⟨b, off + k, none⟩ = some (.bool (gb zs k)) := by
  obtain ⟨b, off, e, hc⟩ := h (by simp; omega)
  have h1 := hc k (by simpa using hk)
  rw [bools_get hk] at h1
  exact ⟨b, off, e, World.block_lt_of_cell? w _ h1, h1⟩

/-- An own row: the cell that is there, that it is not frozen, and what is owned behind a store. -/
theorem Ow.cell_at {w : World} {E : TypeId} {lo hi : Nat} {A : Option Addr} {xs : List Value} (h : Ow w E lo hi A xs) {k : Nat} (hk : k < xs.length) :
    ∃ g off, A = some ⟨g, off, none⟩ ∧ lo ≤ g ∧ g < hi ∧ g < w.heap.size ∧ w.cell? ⟨g, off + k, none⟩ = xs[k]? ∧ w.frozen? ⟨g, off + k, none⟩ = false ∧
      ∀ u, Ow (w.setCell ⟨g, off + k, none⟩ u) E lo hi (some ⟨g, off, none⟩) (xs.set k u) := by
  obtain ⟨g, off, cur, e, hlo, hhi, hh, hc⟩ := h (by omega)
  refine ⟨g, off, e, hlo, hhi, (Array.getElem?_eq_some_iff.1 hh).1, ?_, ?_, ?_⟩
  · rw [cell_of_row w g (off + k) cur E (0, 0) hh]; exact hc k hk
  · simp [World.frozen?, hh]
  · intro u _
    refine ⟨g, off, cur.setIfInBounds (off + k) u, rfl, hlo, hhi, ?_, fun i hi => ?_⟩
    · simp [World.setCell, Array.getElem?_modify, hh]
    · have hi' : i < xs.length := by simpa using hi
      have hck := hc k hk
      rw [List.getElem?_eq_getElem hk] at hck
      have hlt : off + k < cur.size := (Array.getElem?_eq_some_iff.1 hck).1
      rw [Array.getElem?_setIfInBounds, List.getElem?_set]
      by_cases hik : k = i
      · subst hik; simp [hlt, hk]
      · rw [if_neg (by omega), if_neg hik]; exact hc i hi'

theorem ints_set (zs : List Int) (k : Nat) (z : Int) : (ints zs).set k (.int .i64 z) = ints (zs.set k z) := by simp [ints]
theorem bools_set (zs : List Bool) (k : Nat) (z : Bool) : (bools zs).set k (.bool z) = bools (zs.set k z) := by simp [bools]

theorem ret_int {k : IntKind} {a b : Int} (h : a = b) : Ending.returned (.int k a) = .returned (.int k b) := by rw [h]
theorem ret_bool {a b : Bool} (h : a = b) : Ending.returned (.bool a) = .returned (.bool b) := by rw [h]

end Go.Proofs.Ytopneihamefohaa
