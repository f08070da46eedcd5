/-
  What is drawn for skies: some lists of at most 17 numbers in new memory, and some numbers.
-/
import Derived.Test.YtfigjmlipffdpaaDraw
import Derived.Test.YtfigjmlipffdpaaSkyA
import Derived.Deep.RegionWith
import Derived.ArgAppend
namespace Go.Proofs.Ytfigjmlipffdpaa
set_option linter.unusedVariables false
open Go.RowKit

theorem mk16 : ∀ w : World, (Instr.makeSlice 22 (.int .i64 16) (.int .i64 16)).run Try.prog w = .ok (.slice (some ⟨w.heap.size, 0, none⟩) 16 16) (w.alloc (.cells (madeCells #[.int .i64 0] 16) 3)) :=
    fun w => run_make_row' (P := Try.prog) 22 3 (.int .i64 0) 8 Try.underlying22 info_int rfl .i64 .i64 16 (by omega) (by omega) w

/-- a sky in the drawing: 16 numbers in the block lo -/
def SkyW (w wr : World) (g lo P : Nat) : Prop :=
  ∃ O : List Int, O.length = 16 ∧ Ow wr 3 lo (lo + 1) (some ⟨lo, 0, none⟩) (ints O) ∧ Rdr wr g P ∧ Only w wr g (g + 1) ∧ lo + 1 ≤ wr.heap.size

theorem SkyW.start {w : World} {g P : Nat} (h : Rdr w g P) : SkyW w (w.alloc (.cells (madeCells #[.int .i64 0] 16) 3)) g w.heap.size P :=
  ⟨List.replicate 16 0, by simp, by rw [ints_replicate]; exact Ow.made w _ _ _, h.below ((Below.refl w.heap.size w).alloc (Nat.le_refl _) _) h.lt, (Only.refl _ _ _).alloc _, by simp⟩
theorem SkyW.pick {w wr w1 : World} {g lo P Q : Nat} (h : SkyW w wr g lo P) (hg : g < lo) (hr : Rdr w1 g Q) (ho : Only wr w1 g (g + 1)) : SkyW w w1 g lo Q := by
  obtain ⟨O, h1, h2, h3, h4, h5⟩ := h
  exact ⟨O, h1, h2.only ho (by omega), hr, h4.trans ho, Nat.le_trans h5 ho.size⟩
theorem SkyW.rdr {w wr : World} {g lo P : Nat} (h : SkyW w wr g lo P) : Rdr wr g P := by
  obtain ⟨O, h1, h2, h3, h4, h5⟩ := h
  exact h3
theorem SkyW.lt {w wr : World} {g lo P : Nat} (h : SkyW w wr g lo P) : g < wr.heap.size := h.rdr.lt
theorem SkyW.more {w wr : World} {g lo P Q : Nat} (h : SkyW w wr g lo P) (hq : P ≤ Q) : SkyW w wr g lo Q := by
  obtain ⟨O, h1, h2, h3, h4, h5⟩ := h
  exact ⟨O, h1, h2, h3.mono hq, h4, h5⟩
/-- a literal of two numbers, read behind a draw -/
theorem lit_two {w w1 : World} {x y k : Nat} {u v : Int} {E : TypeId} (ho : Only (w.alloc (.cells #[.int .i64 u, .int .i64 v] E)) w1 x y) (hg : y ≤ w.heap.size) (hk : k < 2) : ∃ z : Int, w1.cell? ⟨w.heap.size, k, none⟩ = some (.int .i64 z) := by
  have hb : w1.heap[w.heap.size]? = some (.cells #[.int .i64 u, .int .i64 v] E (0, 0)) := by
    rw [ho.2.2.2.2 w.heap.size (by simp) (.inr hg)]
    exact heap_alloc_new w _
  rw [cell_of_row w1 w.heap.size k _ _ _ hb]
  match k, hk with
  | 0, _ => exact ⟨u, rfl⟩
  | 1, _ => exact ⟨v, rfl⟩
/-- the same, behind the region's draw, whichever of the two comes first; the numbers are small -/
theorem lit_pair {w w1 : World} {x y k : Nat} {u v : Int} {E : TypeId} (ho : Only (w.alloc (.cells #[.int .i64 u, .int .i64 v] E)).drew w1 x y) (hg : y ≤ w.heap.size) (hk : k < 2) : ∃ z : Int, w1.cell? ⟨w.heap.size, k, none⟩ = some (.int .i64 z) ∧ (z = u ∨ z = v) := by
  have hb : w1.heap[w.heap.size]? = some (.cells #[.int .i64 u, .int .i64 v] E (0, 0)) := by
    rw [ho.2.2.2.2 w.heap.size (by show _ < (w.heap.push _).size; simp) (.inr hg)]
    exact heap_alloc_new w _
  rw [cell_of_row w1 w.heap.size k _ _ _ hb]
  match k, hk with
  | 0, _ => exact ⟨u, rfl, .inl rfl⟩
  | 1, _ => exact ⟨v, rfl, .inr rfl⟩
theorem lit_new (w : World) {u v : Int} {E : TypeId} {k : Nat} (hk : k < 2) : ∃ z : Int, (w.alloc (.cells #[.int .i64 u, .int .i64 v] E)).cell? ⟨w.heap.size, k, none⟩ = some (.int .i64 z) ∧ (z = u ∨ z = v) ∧ (#[Value.int .i64 u, Value.int .i64 v] : Array Value)[k]? = some (.int .i64 z) := by
  rw [cell_of_row _ w.heap.size k _ _ _ (heap_alloc_new w _)]
  match k, hk with
  | 0, _ => exact ⟨u, rfl, .inl rfl, rfl⟩
  | 1, _ => exact ⟨v, rfl, .inr rfl, rfl⟩
theorem SkyW.alloc {w wr : World} {g lo P : Nat} (h : SkyW w wr g lo P) (o : Obj) : SkyW w (wr.alloc o) g lo P := by
  obtain ⟨O, h1, h2, h3, h4, h5⟩ := h
  have hb : Below wr.heap.size wr (wr.alloc o) := (Below.refl _ _).alloc (Nat.le_refl _) _
  exact ⟨O, h1, h2.below hb h5, h3.below hb h3.lt, h4.alloc o, by simp; omega⟩
theorem SkyW.set {w wr : World} {g lo P k : Nat} (h : SkyW w wr g lo P) (hg : g < lo) (hlo : w.heap.size ≤ lo) (hk : k < 16) (z : Int) :
    (∃ y : Int, wr.cell? ⟨lo, k, none⟩ = some (.int .i64 y)) ∧ wr.frozen? ⟨lo, k, none⟩ = false ∧ SkyW w (wr.setCell ⟨lo, k, none⟩ (.int .i64 z)) g lo P := by
  obtain ⟨O, h1, h2, h3, h4, h5⟩ := h
  obtain ⟨g', off', e, hg1, hg2, hg3, hc', hf', hset⟩ := h2.cell_at (k := k) (by rw [ints_length, h1]; exact hk)
  injection e with e
  injection e with e1 e2
  subst e1 e2
  rw [ints_get (by rw [h1]; exact hk)] at hc'
  simp only [Nat.zero_add] at hc' hf' hset
  refine ⟨⟨_, hc'⟩, hf', O.set k z, by simpa using h1, by rw [← ints_set]; exact hset _, ?_, h4.setNew hlo _, by simpa [World.setCell] using h5⟩
  exact h3.only ((Only.refl wr lo (lo + 1)).setCell (Nat.le_refl _) (Nat.lt_succ_self _) _) hg

/-- some sky in new memory, its length its capacity; the reader goes on -/
def DrewSky (w : World) (g P : Nat) (e : Ending) (w' : World) : Prop :=
  ∃ (A : Option Addr) (zs : List Int), e = .returned (.slice A zs.length zs.length) ∧ zs.length ≤ 16 ∧ Ow w' 3 w.heap.size w'.heap.size A (ints zs) ∧ Rdr w' g (P + 20) ∧ Only w w' g (g + 1)

theorem Ow.tail {w : World} {E : TypeId} {lo hi b off : Nat} {xs : List Value} (h : Ow w E lo hi (some ⟨b, off, none⟩) xs) : Ow w E lo hi (some ⟨b, off + 1, none⟩) xs.tail := by
  intro h0
  simp only [List.length_tail] at h0
  obtain ⟨g, off', cur, e, hlo, hhi, hh, hc⟩ := h (by omega)
  injection e with e
  injection e with e1 e2
  subst e1 e2
  refine ⟨b, off + 1, cur, rfl, hlo, hhi, hh, fun i hi => ?_⟩
  simp only [List.length_tail] at hi
  have := hc (i + 1) (by omega)
  rw [show off + 1 + i = off + (i + 1) by omega, this]
  simp
theorem ints_tail (zs : List Int) : (ints zs).tail = ints zs.tail := by cases zs <;> rfl

set_option maxHeartbeats 2000000 in
theorem l92Sky_any (g P : Nat) (w : World) (h : Rdr w g P) (hP : P ≤ 900000) : Calls Try.prog 46 #[.pointer (some ⟨g, 0, none⟩)] w (DrewSky w g P) := by
  have hg := h.lt
  have hst := Lib.hid (SkyW.start h)
  have hmk := mk16
  go_enter Try.func46, Try.ntmps46
  go_wp2_with (go_at_call 43; refine (l21Cells_any _).mono ?_; rintro e w' ⟨rfl, rfl⟩)
  refine (pick_any g P 6 _ hst.out.rdr (by omega) (by omega)).mono ?_
  rintro e w1 ⟨n, rfl, n0, n1, hr1, ho1, hs1⟩
  have hW := Lib.hid (hst.out.pick hg hr1 ho1)
  have n2 : n < 6 := n1 (by omega)
  obtain ⟨n, rfl⟩ := Int.eq_ofNat_of_zero_le n0
  clear hst hr1 ho1 hs1 hmk n1 n0
  go_wp2
  go_loopw [5] (fun i wr => ∃ k : Nat, k ≤ n ∧ i = .int .i64 k ∧ SkyW w wr g w.heap.size (P + 1 + 2 * k)) (fun i _ => n - (intOf i).toNat)
  case atStart => exact ⟨0, Nat.zero_le _, rfl, hW.out⟩
  case round =>
    clear hW
    obtain ⟨k, hk, rfl, hrel⟩ := hrel
    have HR := Lib.hid hrel
    clear hrel
    by_cases hlt : k < n
    · go_wp2_with (go_at_call 43; refine (l21Cells_any _).mono ?_; rintro e w' ⟨rfl, rfl⟩)
      refine (pick_any g (P + 1 + 2 * k) 16 _ HR.out.rdr (by omega) (by omega)).mono ?_
      rintro e w2 ⟨x, rfl, x0, x1, hr2, ho2, hs2⟩
      have H2 := Lib.hid (HR.out.pick hg hr2 ho2)
      have x2 : x < 16 := x1 (by omega)
      obtain ⟨x, rfl⟩ := Int.eq_ofNat_of_zero_le x0
      clear HR hr2 ho2 hs2 x1 x0
      go_wp2_with fail
      refine (pick_any g (P + 1 + 2 * k + 1) 30 _ H2.out.rdr (by omega) (by omega)).mono ?_
      rintro e w3 ⟨y, rfl, y0, y1, hr3, ho3, hs3⟩
      have H3 := Lib.hid (H2.out.pick hg hr3 ho3)
      have y2 : y < 30 := y1 (by omega)
      obtain ⟨⟨z, hc⟩, hf, hset⟩ := H3.out.set hg (Nat.le_refl _) (show x < 16 by omega) (y - 3)
      have H4 := Lib.hid hset
      clear H2 H3 hr3 ho3 hs3 y1 hset
      go_wp2
      go_roundw
      case rel => exact ⟨k + 1, by omega, by go_num, H4.out⟩
      case measure => simp [intOf]; omega
    · have H1 := Lib.hid (HR.out.more (show P + 1 + 2 * k ≤ P + 11 by omega))
      clear HR
      go_wp2_with fail
      refine (pick_any g (P + 11) 40 _ H1.out.rdr (by omega) (by omega)).mono ?_
      rintro e w2 ⟨x, rfl, x0, x1, hr2, ho2, hs2⟩
      have H2 := Lib.hid (H1.out.pick hg hr2 ho2)
      clear H1 hr2 ho2 hs2 x1
      by_cases hx0 : x = 0
      · subst hx0
        go_wp2_with fail
        refine (pick_any g (P + 11 + 1) 2 _ (H2.out.alloc _).rdr (by omega) (by omega)).mono ?_
        rintro e w3 ⟨y, rfl, y0, y1, hr3, ho3, hs3⟩
        have H3 := Lib.hid ((H2.out.alloc _).pick hg hr3 ho3)
        have y2 : y < 2 := y1 (by omega)
        obtain ⟨y, rfl⟩ := Int.eq_ofNat_of_zero_le y0
        obtain ⟨z, hz⟩ := lit_two ho3 (k := y) (by have := H2.out.lt; omega) (by omega)
        obtain ⟨⟨u, hc⟩, hf, hset⟩ := H3.out.set hg (Nat.le_refl _) (show 0 < 16 by omega) z
        have H4 := Lib.hid hset
        clear H2 H3 hr3 ho3 hs3 y1 hset y0
        go_wp2
        go_ret
        obtain ⟨O, h1, h2, h3, h4, h5⟩ := H4.out
        exact ⟨some ⟨w.heap.size, 0, none⟩, O, by rw [h1]; rfl, by omega, h2.mono (Nat.le_refl _) h5, h3.mono (by omega), h4⟩
      · by_cases hx1 : x = 1
        · subst hx1
          go_wp2
          go_ret
          obtain ⟨O, h1, h2, h3, h4, h5⟩ := H2.out
          have ht : O.tail.length = 15 := by simp [h1]
          exact ⟨some ⟨w.heap.size, 1, none⟩, O.tail, by rw [ht]; rfl, by omega, by rw [← ints_tail]; exact (h2.tail).mono (Nat.le_refl _) h5, h3.mono (by omega), h4⟩
        · have e0 : (x == 0) = false := by simp [hx0]
          have e1 : (x == 1) = false := by simp [hx1]
          go_wp2
          go_ret
          obtain ⟨O, h1, h2, h3, h4, h5⟩ := H2.out
          exact ⟨some ⟨w.heap.size, 0, none⟩, O, by rw [h1]; rfl, by omega, h2.mono (Nat.le_refl _) h5, h3.mono (by omega), h4⟩

/-- one drawn list -/
def Drew1 (w : World) (e : Ending) (w' : World) : Prop :=
  ∃ (A : Option Addr) (c : Nat) (zs : List Int), e = .returned (.slice A zs.length c) ∧ zs.length ≤ 17 ∧ zs.length ≤ c ∧ Ow w' 3 w.heap.size w'.heap.size A (ints zs) ∧ Below w.heap.size w w'
/-- a drawn list and two numbers -/
def Drew1n (w : World) (e : Ending) (w' : World) : Prop :=
  ∃ (A : Option Addr) (c : Nat) (zs : List Int) (x y : Int), e = .returned (.tuple #[.slice A zs.length c, .int .i64 x, .int .i64 y]) ∧ zs.length ≤ 17 ∧ -1000000 ≤ x ∧ x ≤ 1000000 ∧ -1000000 ≤ y ∧ y ≤ 1000000 ∧ Ow w' 3 w.heap.size w'.heap.size A (ints zs) ∧ Below w.heap.size w w'
/-- two drawn lists and a number -/
def Drew2n (w : World) (e : Ending) (w' : World) : Prop :=
  ∃ (A B : Option Addr) (c d : Nat) (zs ys : List Int) (x : Int), e = .returned (.tuple #[.slice A zs.length c, .slice B ys.length d, .int .i64 x]) ∧ zs.length ≤ 17 ∧ ys.length ≤ 17 ∧ -1000000 ≤ x ∧ x ≤ 1000000 ∧ Ow w' 3 w.heap.size w'.heap.size A (ints zs) ∧ Ow w' 3 w.heap.size w'.heap.size B (ints ys) ∧ Below w.heap.size w w'
def Drew2 (w : World) (e : Ending) (w' : World) : Prop :=
  ∃ (A B : Option Addr) (c d : Nat) (zs ys : List Int), e = .returned (.tuple #[.slice A zs.length c, .slice B ys.length d]) ∧ zs.length ≤ 17 ∧ ys.length ≤ 17 ∧ Ow w' 3 w.heap.size w'.heap.size A (ints zs) ∧ Ow w' 3 w.heap.size w'.heap.size B (ints ys) ∧ Below w.heap.size w w'

theorem DrawSkySum_any (A : Option Addr) (n c : Nat) (w : World) (h : Bytes w A n w.heap.size) (hc : n ≤ c) : Calls Try.prog 33 #[.slice A n c] w (Drew1 w) := by
  go_enter Try.func33, Try.ntmps33
  go_wp2_with fail
  refine (l6Open_any _ _ _ _ h hc).mono ?_
  rintro e w1 ⟨rfl, hr, hb⟩
  go_wp2_with fail
  refine (l92Sky_any _ _ _ hr (by omega)).mono ?_
  rintro e w2 ⟨A1, zs, rfl, hl, ho, hr2, hn⟩
  go_wp2
  go_ret
  exact ⟨A1, _, zs, rfl, by omega, Nat.le_refl _, ho.mono hb.size (Nat.le_refl _), hn.below hb (Nat.le_refl _) (Nat.le_refl _)⟩

set_option maxHeartbeats 400000 in
theorem DrawSkyValid_any (A : Option Addr) (n c : Nat) (w : World) (h : Bytes w A n w.heap.size) (hc : n ≤ c) : Calls Try.prog 21 #[.slice A n c] w (Drew1 w) := by
  obtain ⟨i0, hi, hz0, hz1, hz2⟩ := info_parts info_int
  go_enter Try.func21, Try.ntmps21
  go_wp2_with fail
  refine (l6Open_any _ _ _ _ h hc).mono ?_
  rintro e w1 ⟨rfl, hr, hb⟩
  go_wp2_with fail
  refine (l92Sky_any _ _ _ hr (by omega)).mono ?_
  rintro e w2 ⟨A1, zs, rfl, hl, ho, hr2, hn⟩
  go_wp2_with fail
  refine (pick_any _ _ 8 _ hr2 (by omega) (by omega)).mono ?_
  rintro e w3 ⟨x, rfl, x0, x1, hr3, ho3, hs3⟩
  have hb3 : Below w.heap.size w w3 := ho3.below (hn.below hb (Nat.le_refl _) (Nat.le_refl _)) (Nat.le_refl _) (Nat.le_refl _)
  have hsz := hb.size
  have hlt := hr.lt
  have ho3' := ho.only ho3 (.inr (by omega))
  have hs4 : w2.heap.size ≤ w3.heap.size := by omega
  clear x1 hr3 ho3 hr2 hn ho hr h hs3
  by_cases hx : x = 0
  · subst hx
    have hrd : Rd (w3.alloc (.cells #[.int .i64 1] 3)) A1 (ints zs) := ho3'.rd.below ((Below.refl w3.heap.size w3).alloc (Nat.le_refl _) _) (Nat.le_refl _)
    have HRD := Lib.hid hrd
    clear hrd
    go_wp2_with (at_builtin; refine wpList_append_grows _ rfl (.tmp 12) (.tmp 13) 22 rfl 3 i0 (.int .i64 0) 1 8 Try.underlying22 hi hz0 hz1 hz2 rfl (by decide) A1 zs.length zs.length (ints zs) rfl (fun e => by have := HRD.out.nil_len e; simp at this; simp [this]) (by simp) HRD.out.olds ⟨w3.heap.size, 0, none⟩ 1 1 [.int .i64 1] rfl rfl (news_a _ _ _) (one_int 1) (by omega) (by simp [maxLen]; omega) (by omega) ?_; intro v' w4 hown4 hgrow4)
    go_ret
    obtain ⟨A4, c4, rfl, hc4, _⟩ := own_shape hown4
    have hb4 : Below w.heap.size w w4 := (hb3.alloc hb3.size _).grown hgrow4 (by have := hb3.size; simp; omega) (fun k hk => by cases hk)
    have ho4 := Ow.of_own hown4
    exact ⟨A4, c4, zs ++ [1], by simp, by simp; omega, by simpa using hc4, by rw [ints_append]; exact ho4.mono (by have := hb3.size; simp; omega) (Nat.le_refl _), hb4⟩
  · have e0 : (x == 0) = false := by simp [hx]
    go_wp2
    go_ret
    exact ⟨A1, _, zs, rfl, by omega, Nat.le_refl _, ho3'.mono hsz (by omega), hb3⟩


set_option maxHeartbeats 800000 in
theorem DrawSkyShift_any (A : Option Addr) (n c : Nat) (w : World) (h : Bytes w A n w.heap.size) (hc : n ≤ c) : Calls Try.prog 35 #[.slice A n c] w (Drew1n w) := by
  go_enter Try.func35, Try.ntmps35
  go_wp2_with fail
  refine (l6Open_any _ _ _ _ h hc).mono ?_
  rintro e w1 ⟨rfl, hr, hb⟩
  go_wp2_with fail
  refine (l92Sky_any _ _ _ hr (by omega)).mono ?_
  rintro e w2 ⟨A1, zs, rfl, hl, ho, hr2, hn⟩
  have s1 := hb.size
  have s2 := hn.size
  have hlt := hr.lt
  have hb2 := hn.below hb (Nat.le_refl _) (Nat.le_refl _)
  clear hn hb hr h
  go_wp2_with fail
  refine (pick_any _ _ 16 _ hr2 (by omega) (by omega)).mono ?_
  rintro e w3 ⟨x, rfl, x0, x1, hr3, ho3, hs3⟩
  have s3 := ho3.size
  have ho3' := ho.only ho3 (.inr (by omega))
  have hb3 := ho3.below hb2 (Nat.le_refl _) (Nat.le_refl _)
  clear x1 ho3 hr2 ho hs3 hb2
  by_cases hx : x = 0
  · subst hx
    go_wp2
    have hrA : Rdr (w3.alloc (.cells #[.int .i64 (-1), .int .i64 4] 3)).drew w.heap.size (0 + 20 + 1) := hr3.below (((Below.refl w3.heap.size w3).alloc (Nat.le_refl _) _).drew) hr3.lt
    have hrB : Rdr w3.drew w.heap.size (0 + 20 + 1) := hr3
    have hlt3 : w.heap.size + 1 ≤ w3.heap.size := by omega
    have hblA : Below w3.heap.size w3 (w3.alloc (.cells #[.int .i64 (-1), .int .i64 4] 3)).drew := ((Below.refl w3.heap.size w3).alloc (Nat.le_refl _) _).drew
    have hoA := Lib.hid (ho3'.below hblA (by omega))
    have hbA := Lib.hid (hb3.trans (hblA.mono hb3.size))
    clear hblA
    go_region_with ((go_at_call 47; refine (pick_any _ _ 2 _ (by first | exact hrA | exact hrB) (by omega) (by omega)).mono ?_; rintro e w4 ⟨y, rfl, y0, y1, hr4, ho4, hs4⟩; have y2 := y1 (by omega); obtain ⟨y, rfl⟩ := Int.eq_ofNat_of_zero_le y0; clear hs4 y1; (first | (change Only (w3.alloc (.cells #[.int .i64 (-1), .int .i64 4] 3)).drew w4 _ _ at ho4; obtain ⟨z, hz1, hz2⟩ := lit_pair ho4 hlt3 (k := y) (by omega)) | (obtain ⟨z, hz1, hz2, hz3⟩ := lit_new w4 (u := -1) (v := 4) (E := 3) (k := y) (by omega)))))
    · go_wp2
      go_ret3
      exact ⟨A1, _, zs, z, 0, rfl, by omega, by omega, by omega, by omega, by omega, (hoA.out.only ho4 (.inr (by omega))).mono (by omega) (by have := ho4.size; have : w3.heap.size ≤ (w3.alloc (.cells #[.int .i64 (-1), .int .i64 4] 3)).drew.heap.size := base_da (Nat.le_refl _); omega), ho4.below hbA.out (Nat.le_refl _) (Nat.le_refl _)⟩
    · have ho4w : Only w3 w4 w.heap.size (w.heap.size + 1) := ho4
      have hb4 := ho4w.below hb3 (Nat.le_refl _) (Nat.le_refl _)
      have s4 := ho4w.size
      have hblB : Below w4.heap.size w4 (w4.alloc (.cells #[.int .i64 (-1), .int .i64 4] 3)) := (Below.refl w4.heap.size w4).alloc (Nat.le_refl _) _
      have hoB := Lib.hid ((ho3'.only ho4w (.inr (by omega))).below hblB (by omega))
      have hbB := Lib.hid (hb4.trans (hblB.mono hb4.size))
      clear hblB
      go_wp2
      go_ret3
      exact ⟨A1, _, zs, z, 0, rfl, by omega, by omega, by omega, by omega, by omega, hoB.out.mono (by omega) (by simp; omega), hbB.out⟩
  · have e0 : (x == 0) = false := by simp [hx]
    go_wp2_with fail
    refine (pick_any _ _ 4 _ hr3 (by omega) (by omega)).mono ?_
    rintro e w4 ⟨y, rfl, y0, y1, hr4, ho4, hs4⟩
    have s4 := ho4.size
    have ho4' := ho3'.only ho4 (.inr (by omega))
    have hb4 := ho4.below hb3 (Nat.le_refl _) (Nat.le_refl _)
    have y2 := y1 (by omega)
    clear y1 ho4 hr3 ho3' hs4 hb3
    go_wp2_with fail
    refine (pick_any _ _ 4 _ hr4 (by omega) (by omega)).mono ?_
    rintro e w5 ⟨v, rfl, v0, v1, hr5, ho5, hs5⟩
    have s5 := ho5.size
    have ho5' := ho4'.only ho5 (.inr (by omega))
    have hb5 := ho5.below hb4 (Nat.le_refl _) (Nat.le_refl _)
    have v2 := v1 (by omega)
    clear v1 ho5 hr4 ho4' hs5 hb4
    go_wp2
    go_ret3
    exact ⟨A1, _, zs, y, v, rfl, by omega, by omega, by omega, by omega, by omega, ho5'.mono (by omega) (by omega), hb5⟩

theorem lit3_pair {w w1 : World} {x y k : Nat} {u v t : Int} {E : TypeId} (ho : Only (w.alloc (.cells #[.int .i64 u, .int .i64 v, .int .i64 t] E)).drew w1 x y) (hg : y ≤ w.heap.size) (hk : k < 3) : ∃ z : Int, w1.cell? ⟨w.heap.size, k, none⟩ = some (.int .i64 z) ∧ (z = u ∨ z = v ∨ z = t) := by
  have hb : w1.heap[w.heap.size]? = some (.cells #[.int .i64 u, .int .i64 v, .int .i64 t] E (0, 0)) := by
    rw [ho.2.2.2.2 w.heap.size (by show _ < (w.heap.push _).size; simp) (.inr hg)]
    exact heap_alloc_new w _
  rw [cell_of_row w1 w.heap.size k _ _ _ hb]
  match k, hk with
  | 0, _ => exact ⟨u, rfl, .inl rfl⟩
  | 1, _ => exact ⟨v, rfl, .inr (.inl rfl)⟩
  | 2, _ => exact ⟨t, rfl, .inr (.inr rfl)⟩
theorem lit3_new (w : World) {u v t : Int} {E : TypeId} {k : Nat} (hk : k < 3) : ∃ z : Int, (w.alloc (.cells #[.int .i64 u, .int .i64 v, .int .i64 t] E)).cell? ⟨w.heap.size, k, none⟩ = some (.int .i64 z) ∧ (z = u ∨ z = v ∨ z = t) ∧ (#[Value.int .i64 u, Value.int .i64 v, Value.int .i64 t] : Array Value)[k]? = some (.int .i64 z) := by
  rw [cell_of_row _ w.heap.size k _ _ _ (heap_alloc_new w _)]
  match k, hk with
  | 0, _ => exact ⟨u, rfl, .inl rfl, rfl⟩
  | 1, _ => exact ⟨v, rfl, .inr (.inl rfl), rfl⟩
  | 2, _ => exact ⟨t, rfl, .inr (.inr rfl), rfl⟩

set_option maxHeartbeats 800000 in
theorem DrawSkyAdd_any (A : Option Addr) (n c : Nat) (w : World) (h : Bytes w A n w.heap.size) (hc : n ≤ c) : Calls Try.prog 37 #[.slice A n c] w (Drew2n w) := by
  go_enter Try.func37, Try.ntmps37
  go_wp2_with fail
  refine (l6Open_any _ _ _ _ h hc).mono ?_
  rintro e w1 ⟨rfl, hr, hb⟩
  go_wp2_with fail
  refine (l92Sky_any _ _ _ hr (by omega)).mono ?_
  rintro e w2 ⟨A1, zs, rfl, hl, hz, hr2, hn⟩
  have s1 := hb.size
  have s2 := hn.size
  have hlt := hr.lt
  have hb2 := hn.below hb (Nat.le_refl _) (Nat.le_refl _)
  clear hn hb hr h
  go_wp2_with fail
  refine (l92Sky_any _ _ _ hr2 (by omega)).mono ?_
  rintro e wy ⟨A2, ys, rfl, hl2, hy, hry, hny⟩
  have sy := hny.size
  have hz1 : Ow wy 3 (w.heap.size + 1) wy.heap.size A1 (ints zs) := (hz.only hny (.inr (by omega))).mono (by omega) (by omega)
  have hy1 : Ow wy 3 (w.heap.size + 1) wy.heap.size A2 (ints ys) := hy.mono (by omega) (Nat.le_refl _)
  have hby := hny.below hb2 (Nat.le_refl _) (Nat.le_refl _)
  clear hz hy hny hb2 hr2
  go_wp2_with fail
  refine (pick_any _ _ 16 _ hry (by omega) (by omega)).mono ?_
  rintro e w3 ⟨x, rfl, x0, x1, hr3, ho3, hs3⟩
  have s3 := ho3.size
  replace hz1 := (hz1.only ho3 (.inr (Nat.le_refl _))).mono (Nat.le_refl _) s3
  replace hy1 := (hy1.only ho3 (.inr (Nat.le_refl _))).mono (Nat.le_refl _) s3
  have hb3 := ho3.below hby (Nat.le_refl _) (Nat.le_refl _)
  clear x1 ho3 hry hs3 hby
  by_cases hx : x = 0
  · subst hx
    go_wp2
    have hrA : Rdr (w3.alloc (.cells #[.int .i64 100000, .int .i64 100001, .int .i64 (-99999)] 3)).drew w.heap.size (0 + 20 + 20 + 1) := hr3.below (((Below.refl w3.heap.size w3).alloc (Nat.le_refl _) _).drew) hr3.lt
    have hrB : Rdr w3.drew w.heap.size (0 + 20 + 20 + 1) := hr3
    have hlt3 : w.heap.size + 1 ≤ w3.heap.size := by omega
    have hblA : Below w3.heap.size w3 (w3.alloc (.cells #[.int .i64 100000, .int .i64 100001, .int .i64 (-99999)] 3)).drew := ((Below.refl w3.heap.size w3).alloc (Nat.le_refl _) _).drew
    have hzA := Lib.hid (hz1.below hblA (Nat.le_refl _))
    have hyA := Lib.hid (hy1.below hblA (Nat.le_refl _))
    have hbA := Lib.hid (hb3.trans (hblA.mono hb3.size))
    have hsA : w3.heap.size ≤ (w3.alloc (.cells #[.int .i64 100000, .int .i64 100001, .int .i64 (-99999)] 3)).drew.heap.size := base_da (Nat.le_refl _)
    have HSA := Lib.hid hsA
    clear hblA hsA
    go_region_with ((go_at_call 47; refine (pick_any _ _ 3 _ (by first | exact hrA | exact hrB) (by omega) (by omega)).mono ?_; rintro e w4 ⟨y, rfl, y0, y1, hr4, ho4, hs4⟩; have y2 := y1 (by omega); obtain ⟨y, rfl⟩ := Int.eq_ofNat_of_zero_le y0; clear hs4 y1; (first | (change Only (w3.alloc (.cells #[.int .i64 100000, .int .i64 100001, .int .i64 (-99999)] 3)).drew w4 _ _ at ho4; obtain ⟨z, hz1', hz2⟩ := lit3_pair ho4 hlt3 (k := y) (by omega)) | (obtain ⟨z, hz1', hz2, hz3⟩ := lit3_new w4 (u := 100000) (v := 100001) (t := -99999) (E := 3) (k := y) (by omega)))))
    · go_wp2
      go_ret3
      have s4 := ho4.size
      have s5 := HSA.out
      exact ⟨A1, A2, _, _, zs, ys, z, rfl, by omega, by omega, by omega, by omega, (hzA.out.only ho4 (.inr (by omega))).mono (by omega) (by omega), (hyA.out.only ho4 (.inr (by omega))).mono (by omega) (by omega), ho4.below hbA.out (Nat.le_refl _) (Nat.le_refl _)⟩
    · have ho4w : Only w3 w4 w.heap.size (w.heap.size + 1) := ho4
      have hb4 := ho4w.below hb3 (Nat.le_refl _) (Nat.le_refl _)
      have s4 := ho4w.size
      have hblB : Below w4.heap.size w4 (w4.alloc (.cells #[.int .i64 100000, .int .i64 100001, .int .i64 (-99999)] 3)) := (Below.refl w4.heap.size w4).alloc (Nat.le_refl _) _
      have hzB := Lib.hid ((hz1.only ho4w (.inr (Nat.le_refl _))).below hblB (by omega))
      have hyB := Lib.hid ((hy1.only ho4w (.inr (Nat.le_refl _))).below hblB (by omega))
      have hbB := Lib.hid (hb4.trans (hblB.mono hb4.size))
      clear hblB
      go_wp2
      go_ret3
      exact ⟨A1, A2, _, _, zs, ys, z, rfl, by omega, by omega, by omega, by omega, hzB.out.mono (by omega) (by simp; omega), hyB.out.mono (by omega) (by simp; omega), hbB.out⟩
  · have e0 : (x == 0) = false := by simp [hx]
    go_wp2_with fail
    refine (pick_any _ _ 11 _ hr3 (by omega) (by omega)).mono ?_
    rintro e w4 ⟨y, rfl, y0, y1, hr4, ho4, hs4⟩
    have s4 := ho4.size
    have hb4 := ho4.below hb3 (Nat.le_refl _) (Nat.le_refl _)
    have y2 := y1 (by omega)
    replace hz1 := (hz1.only ho4 (.inr (Nat.le_refl _))).mono (Nat.le_refl _) s4
    replace hy1 := (hy1.only ho4 (.inr (Nat.le_refl _))).mono (Nat.le_refl _) s4
    clear y1 ho4 hr3 hs4 hb3
    go_wp2
    go_ret3
    exact ⟨A1, A2, _, _, zs, ys, _, rfl, by omega, by omega, by omega, by omega, hz1.mono (by omega) (Nat.le_refl _), hy1.mono (by omega) (Nat.le_refl _), hb4⟩
end Go.Proofs.Ytfigjmlipffdpaa
