/-
  Contracts of baselines' numbers and of visibilities of two antennas, of the program and of the reference.
-/
import Derived.Test.YtopneihamefohaaVisA
import Derived.StillTailTactics
namespace Go.Proofs.Ytopneihamefohaa
set_option linter.unusedVariables false
open Go.RowKit

/-- the number of the baseline of two different antennas -/
def gk (N i j : Nat) : Nat := idx N (min i j) (max i j)
theorem gk_lt {N i j : Nat} (h : i < j) : gk N i j = idx N i j := by unfold gk; rw [Nat.min_eq_left (by omega), Nat.max_eq_right (by omega)]
theorem gk_gt {N i j : Nat} (h : j < i) : gk N i j = idx N j i := by unfold gk; rw [Nat.min_eq_right (by omega), Nat.max_eq_left (by omega)]
theorem gk_comm (N i j : Nat) : gk N i j = gk N j i := by unfold gk; rw [Nat.min_comm, Nat.max_comm]
theorem gk_nb {N i j : Nat} (h7 : N ≤ 7) (hi : i < N) (hj : j < N) (hne : i ≠ j) : gk N i j < nb N := by
  rcases Nat.lt_or_gt_of_ne hne with h | h
  · rw [gk_lt h]; exact (idx_at h7 h hj).1
  · rw [gk_gt h]; exact (idx_at h7 h hi).1
theorem idx_int_all : ∀ N : Fin 8, ∀ i : Fin 8, ∀ j : Fin 8, i.1 < j.1 → j.1 < N.1 → (i.1 : Int) * (2 * (N.1 : Int) - (i.1 : Int) - 1) / 2 + (j.1 : Int) - (i.1 : Int) - 1 = ((idx N i j : Nat) : Int) ∧ (i.1 : Int) * (N.1 : Int) - (i.1 : Int) * ((i.1 : Int) + 1) / 2 + (j.1 : Int) - (i.1 : Int) - 1 = ((idx N i j : Nat) : Int) := by decide +kernel
theorem idx_int {N i j : Nat} (h7 : N ≤ 7) (hij : i < j) (hj : j < N) : (i : Int) * (2 * (N : Int) - (i : Int) - 1) / 2 + (j : Int) - (i : Int) - 1 = ((idx N i j : Nat) : Int) := (idx_int_all ⟨N, by omega⟩ ⟨i, by omega⟩ ⟨j, by omega⟩ hij hj).1
theorem idx_int2 {N i j : Nat} (h7 : N ≤ 7) (hij : i < j) (hj : j < N) : (i : Int) * (N : Int) - (i : Int) * ((i : Int) + 1) / 2 + (j : Int) - (i : Int) - 1 = ((idx N i j : Nat) : Int) := (idx_int_all ⟨N, by omega⟩ ⟨i, by omega⟩ ⟨j, by omega⟩ hij hj).2

set_option maxHeartbeats 400000 in
theorem baseAt_any (N i j : Nat) (w : World) (h7 : N ≤ 7) (hi : i < N) (hj : j < N) (hne : i ≠ j) : Calls Try.prog 53 #[.int .i64 (N : Int), .int .i64 (i : Int), .int .i64 (j : Int)] w fun e w' => e = .returned (.int .i64 ((gk N i j : Nat) : Int)) ∧ w = w' := by
  rcases Nat.lt_or_gt_of_ne hne with h | h
  · obtain ⟨p1, p2⟩ := mul_bd (x := (i : Int)) (y := 2 * (N : Int) - (i : Int) - 1) (B := 20) (C := 20) (by omega) (by omega)
    have p3 : 0 ≤ (i : Int) * (2 * (N : Int) - (i : Int) - 1) := Int.mul_nonneg (by omega) (by omega)
    have H := Lib.hid (idx_int h7 h hj)
    have G := Lib.hid (gk_lt (N := N) h)
    clear hne
    go_enter Try.func53, Try.ntmps53
    go_wp2
    go_ret
    exact ⟨ret_int (by rw [G.out]; exact H.out), rfl⟩
  · obtain ⟨p1, p2⟩ := mul_bd (x := (j : Int)) (y := 2 * (N : Int) - (j : Int) - 1) (B := 20) (C := 20) (by omega) (by omega)
    have p3 : 0 ≤ (j : Int) * (2 * (N : Int) - (j : Int) - 1) := Int.mul_nonneg (by omega) (by omega)
    have H := Lib.hid (idx_int h7 h hi)
    have G := Lib.hid (gk_gt (N := N) h)
    clear hne
    go_enter Try.func53, Try.ntmps53
    go_wp2
    go_ret
    exact ⟨ret_int (by rw [G.out]; exact H.out), rfl⟩

/-- whether two antennas have a baseline -/
def biB (n i j : Int) : Bool := manyB n && antB n i && antB n j && !(i == j)
def bi (n i j : Int) : Int := if biB n i j then ((gk n.toNat i.toNat j.toNat : Nat) : Int) else -1
theorem ant_nat {N : Nat} {i : Int} (h : antB (N : Int) i = true) : ∃ I : Nat, i = (I : Int) ∧ I < N := by
  have := inB_true h
  exact ⟨i.toNat, by omega, by omega⟩
theorem biB_nat {n i j : Int} (h : biB n i j = true) : ∃ N I J : Nat, n = (N : Int) ∧ i = (I : Int) ∧ j = (J : Int) ∧ 2 ≤ N ∧ N ≤ 7 ∧ I < N ∧ J < N ∧ I ≠ J := by
  simp only [biB, Bool.and_eq_true, Bool.not_eq_true', beq_eq_false_iff_ne] at h
  obtain ⟨⟨⟨h1, h2⟩, h3⟩, h4⟩ := h
  obtain ⟨N, rfl, n2, n7⟩ := many_nat h1
  obtain ⟨I, rfl, hI⟩ := ant_nat h2
  obtain ⟨J, rfl, hJ⟩ := ant_nat h3
  exact ⟨N, I, J, rfl, rfl, rfl, n2, n7, hI, hJ, fun e => h4 (by rw [e])⟩
theorem antB_mk {N I : Nat} (h : I < N) : antB (N : Int) (I : Int) = true := inB_mk (by omega)
theorem biB_mk {N I J : Nat} (n2 : 2 ≤ N) (n7 : N ≤ 7) (hI : I < N) (hJ : J < N) (hne : I ≠ J) : biB (N : Int) (I : Int) (J : Int) = true := by
  simp only [biB, manyB_mk n2 n7, antB_mk hI, antB_mk hJ, Bool.true_and, Bool.not_eq_true', beq_eq_false_iff_ne]
  omega
theorem bi_mk {N I J : Nat} (n2 : 2 ≤ N) (n7 : N ≤ 7) (hI : I < N) (hJ : J < N) (hne : I ≠ J) : bi (N : Int) (I : Int) (J : Int) = ((gk N I J : Nat) : Int) := by
  simp [bi, biB_mk n2 n7 hI hJ hne]
theorem bi_no {n i j : Int} (h : biB n i j = false) : bi n i j = -1 := by simp [bi, h]
theorem bi_neg {n i j : Int} : (bi n i j < 0) ↔ biB n i j = false := by
  cases h : biB n i j with
  | false => simp [bi_no h]
  | true => obtain ⟨N, I, J, rfl, rfl, rfl, n2, n7, hI, hJ, hne⟩ := biB_nat h; rw [bi_mk n2 n7 hI hJ hne]; simp

set_option maxHeartbeats 400000 in
theorem BaseIndex_any (n i j : Int) (w : World) : Calls Try.prog 31 #[.int .i64 n, .int .i64 i, .int .i64 j] w fun e w' => e = .returned (.int .i64 (bi n i j)) ∧ w = w' := by
  cases h : biB n i j with
  | true =>
    obtain ⟨N, I, J, rfl, rfl, rfl, n2, n7, hI, hJ, hne⟩ := biB_nat h
    rw [bi_mk n2 n7 hI hJ hne]
    have e1 := manyB_mk n2 n7
    have e2 := antB_mk hI
    have e3 := antB_mk hJ
    have e4 : ((I : Int) == (J : Int)) = false := by simp; omega
    have HN := Lib.hid hne
    clear h hne
    go_enter Try.func31, Try.ntmps31
    go_wp2_with (first | (go_at_call 49; refine (isMany_any _ _).mono ?_; rintro e w' ⟨rfl, rfl⟩) | (go_at_call 56; refine (isAnt_any _ _ _).mono ?_; rintro e w' ⟨rfl, rfl⟩) | (go_at_call 53; refine (baseAt_any _ _ _ _ n7 hI hJ HN.out).mono ?_; rintro e w' ⟨rfl, rfl⟩))
    go_ret
    exact ⟨rfl, rfl⟩
  | false =>
    rw [bi_no h]
    cases e1 : manyB n with
    | false =>
      clear h
      go_enter Try.func31, Try.ntmps31
      go_wp2_with (go_at_call 49; refine (isMany_any _ _).mono ?_; rintro e w' ⟨rfl, rfl⟩)
      go_ret
      exact ⟨rfl, rfl⟩
    | true =>
    cases e2 : antB n i with
    | false =>
      clear h
      go_enter Try.func31, Try.ntmps31
      go_wp2_with (first | (go_at_call 49; refine (isMany_any _ _).mono ?_; rintro e w' ⟨rfl, rfl⟩) | (go_at_call 56; refine (isAnt_any _ _ _).mono ?_; rintro e w' ⟨rfl, rfl⟩))
      go_ret
      exact ⟨rfl, rfl⟩
    | true =>
    cases e3 : antB n j with
    | false =>
      clear h
      go_enter Try.func31, Try.ntmps31
      go_wp2_with (first | (go_at_call 49; refine (isMany_any _ _).mono ?_; rintro e w' ⟨rfl, rfl⟩) | (go_at_call 56; refine (isAnt_any _ _ _).mono ?_; rintro e w' ⟨rfl, rfl⟩))
      go_ret
      exact ⟨rfl, rfl⟩
    | true =>
      have e4 : (i == j) = true := by simpa [biB, e1, e2, e3] using h
      clear h
      go_enter Try.func31, Try.ntmps31
      go_wp2_with (first | (go_at_call 49; refine (isMany_any _ _).mono ?_; rintro e w' ⟨rfl, rfl⟩) | (go_at_call 56; refine (isAnt_any _ _ _).mono ?_; rintro e w' ⟨rfl, rfl⟩))
      go_ret
      exact ⟨rfl, rfl⟩

set_option maxHeartbeats 800000 in
theorem sBaseIndex_yes (N i j : Nat) (w : World) (n2 : 2 ≤ N) (h7 : N ≤ 7) (hi : i < N) (hj : j < N) (hne : i ≠ j) : Calls Try.prog 51 #[.int .i64 (N : Int), .int .i64 (i : Int), .int .i64 (j : Int)] w fun e w' => e = .returned (.int .i64 ((gk N i j : Nat) : Int)) ∧ w = w' := by
  have e0 : (bm (N : Int) == 0) = false := by have := bm_yes (manyB_mk n2 h7); simp; omega
  have e2 : inB (i : Int) 0 ((N : Int) - 1) = true := antB_mk hi
  have e3 : inB (j : Int) 0 ((N : Int) - 1) = true := antB_mk hj
  have e4 : ((i : Int) == (j : Int)) = false := by simp; omega
  rcases Nat.lt_or_gt_of_ne hne with h | h
  · have q1 : min (i : Int) (j : Int) = (i : Int) := by omega
    have q2 : max (i : Int) (j : Int) = (j : Int) := by omega
    have Q1 := Lib.hid q1
    have Q2 := Lib.hid q2
    have H := Lib.hid (idx_int2 h7 h hj)
    have G := Lib.hid (gk_lt (N := N) h)
    obtain ⟨p1, p2⟩ := mul_bd (x := (i : Int)) (y := (N : Int)) (B := 10) (C := 10) (by omega) (by omega)
    obtain ⟨p3, p4⟩ := mul_bd (x := (i : Int)) (y := (i : Int) + 1) (B := 10) (C := 10) (by omega) (by omega)
    have p5 : 0 ≤ (i : Int) * ((i : Int) + 1) := Int.mul_nonneg (by omega) (by omega)
    have r1 : (i : Int) ≤ (j : Int) := by omega
    have r2 : ¬ (j : Int) ≤ (i : Int) := by omega
    have r3 : (i : Int) < (j : Int) := by omega
    clear hne q1 q2
    go_enter Try.func51, Try.ntmps51
    go_wp2_with (first | (go_at_call 67; refine (sBaseMany_any _ _).mono ?_; rintro e w' ⟨rfl, rfl⟩) | (go_at_call 46; refine (l6In_any _ _ _ _).mono ?_; rintro e w' ⟨rfl, rfl⟩))
    go_ret
    exact ⟨ret_int (by rw [G.out, ← H.out]; try (rw [Int.min_eq_left (by omega), Int.max_eq_right (by omega)])), rfl⟩
  · have q1 : min (i : Int) (j : Int) = (j : Int) := by omega
    have q2 : max (i : Int) (j : Int) = (i : Int) := by omega
    have H := Lib.hid (idx_int2 h7 h hi)
    have G := Lib.hid (gk_gt (N := N) h)
    obtain ⟨p1, p2⟩ := mul_bd (x := (j : Int)) (y := (N : Int)) (B := 10) (C := 10) (by omega) (by omega)
    obtain ⟨p3, p4⟩ := mul_bd (x := (j : Int)) (y := (j : Int) + 1) (B := 10) (C := 10) (by omega) (by omega)
    have p5 : 0 ≤ (j : Int) * ((j : Int) + 1) := Int.mul_nonneg (by omega) (by omega)
    have r1 : (j : Int) ≤ (i : Int) := by omega
    have r2 : ¬ (i : Int) ≤ (j : Int) := by omega
    have r3 : (j : Int) < (i : Int) := by omega
    clear hne q1 q2
    go_enter Try.func51, Try.ntmps51
    go_wp2_with (first | (go_at_call 67; refine (sBaseMany_any _ _).mono ?_; rintro e w' ⟨rfl, rfl⟩) | (go_at_call 46; refine (l6In_any _ _ _ _).mono ?_; rintro e w' ⟨rfl, rfl⟩))
    go_ret
    exact ⟨ret_int (by rw [G.out, ← H.out]; try (rw [Int.min_eq_right (by omega), Int.max_eq_left (by omega)])), rfl⟩

set_option maxHeartbeats 800000 in
theorem sBaseIndex_any (n i j : Int) (w : World) : Calls Try.prog 51 #[.int .i64 n, .int .i64 i, .int .i64 j] w fun e w' => e = .returned (.int .i64 (bi n i j)) ∧ w = w' := by
  cases h : biB n i j with
  | true =>
    obtain ⟨N, I, J, rfl, rfl, rfl, n2, n7, hI, hJ, hne⟩ := biB_nat h
    rw [bi_mk n2 n7 hI hJ hne]
    exact sBaseIndex_yes N I J w n2 n7 hI hJ hne
  | false =>
    rw [bi_no h]
    cases e1 : manyB n with
    | false =>
      have e0 := bm_no e1
      clear h
      go_enter Try.func51, Try.ntmps51
      go_wp2_with (go_at_call 67; refine (sBaseMany_any _ _).mono ?_; rintro e w' ⟨rfl, rfl⟩)
      go_ret
      exact ⟨rfl, rfl⟩
    | true =>
    have e0 : (bm n == 0) = false := by have := bm_yes e1; simp; omega
    have hn := inB_true e1
    obtain ⟨hn1, hn2⟩ := hn
    cases e2 : antB n i with
    | false =>
      have e2' : inB i 0 (n - 1) = false := e2
      clear h
      go_enter Try.func51, Try.ntmps51
      go_wp2_with (first | (go_at_call 67; refine (sBaseMany_any _ _).mono ?_; rintro e w' ⟨rfl, rfl⟩) | (go_at_call 46; refine (l6In_any _ _ _ _).mono ?_; rintro e w' ⟨rfl, rfl⟩))
      go_ret
      exact ⟨rfl, rfl⟩
    | true =>
    have e2' : inB i 0 (n - 1) = true := e2
    cases e3 : antB n j with
    | false =>
      have e3' : inB j 0 (n - 1) = false := e3
      clear h
      go_enter Try.func51, Try.ntmps51
      go_wp2_with (first | (go_at_call 67; refine (sBaseMany_any _ _).mono ?_; rintro e w' ⟨rfl, rfl⟩) | (go_at_call 46; refine (l6In_any _ _ _ _).mono ?_; rintro e w' ⟨rfl, rfl⟩))
      go_ret
      exact ⟨rfl, rfl⟩
    | true =>
      have e3' : inB j 0 (n - 1) = true := e3
      have e4 : (i == j) = true := by simpa [biB, e1, e2, e3] using h
      clear h
      go_enter Try.func51, Try.ntmps51
      go_wp2_with (first | (go_at_call 67; refine (sBaseMany_any _ _).mono ?_; rintro e w' ⟨rfl, rfl⟩) | (go_at_call 46; refine (l6In_any _ _ _ _).mono ?_; rintro e w' ⟨rfl, rfl⟩))
      go_ret
      exact ⟨rfl, rfl⟩

/-- the phase of the visibility of two antennas, in this order -/
def vph (ps : List (Int × Int)) (N i j : Nat) : Int := if j < i then (-(g2 ps (gk N i j))) % 360 else g2 ps (gk N i j)
theorem vph_lt {ps : List (Int × Int)} {N i j : Nat} (h : i < j) : vph ps N i j = g2 ps (gk N i j) := by unfold vph; rw [if_neg (by omega)]
theorem vph_gt {ps : List (Int × Int)} {N i j : Nat} (h : j < i) : vph ps N i j = (-(g2 ps (gk N i j))) % 360 := by unfold vph; rw [if_pos h]

set_option maxHeartbeats 800000 in
theorem opposite_any (x y : Int) (w : World) (h0 : 0 ≤ y) (h1 : y < 360) :
    Calls Try.prog 72 #[.agg #[.int .i64 x, .int .i64 y]] w fun e w' => e = .returned (.agg #[.int .i64 x, .int .i64 ((-y) % 360)]) ∧ Below w.heap.size w w' := by
  have HP := Lib.hid (still_phase (-y))
  go_enter Try.func72, Try.ntmps72
  go_wp2
  obtain ⟨W, hW⟩ : ∃ W : World, W = (w.alloc (.cells #[.int .i64 x, .int .i64 y] 44)).alloc (.cells #[.int .i64 0, .int .i64 0] 44) := ⟨_, rfl⟩
  have c0 : W.cell? ⟨w.heap.size, 0, none⟩ = some (.int .i64 x) := by rw [hW]; simp
  have c1 : W.cell? ⟨w.heap.size, 1, none⟩ = some (.int .i64 y) := by rw [hW]; simp
  have hblk : W.heap[w.heap.size + 1]? = some (.cells #[.int .i64 0, .int .i64 0] 44 (0, 0)) := by rw [hW]; have := heap_alloc_new (w.alloc (.cells #[.int .i64 x, .int .i64 y] 44)) (.cells #[.int .i64 0, .int .i64 0] 44); simpa using this
  have hB : Below w.heap.size w W := by rw [hW]; exact ((Below.refl _ _).alloc (Nat.le_refl _) _).alloc (by simp) _
  obtain ⟨d0, d1, f0, f1, _⟩ := two_cells hblk
  have z0 : (W.setCell ⟨w.heap.size + 1, 0, none⟩ (.int .i64 x)).cell? ⟨w.heap.size + 1, 0, none⟩ = some (.int .i64 x) := World.cell?_setCell_same' _ _ _ (by rw [d0]; rfl)
  have Z0 := Lib.hid z0
  have HB := Lib.hid hB
  rw [← hW]
  clear hW hB hblk z0
  have e1 : IntKind.i64.wrap (-y) = -y := IntWalk.i64_in _ (by omega)
  refine wp_region_still_tail 7 (by kernel_rfl) (by kernel_rfl) ?_
  simp only [List.take_succ_cons, List.take_zero, List.drop_succ_cons, List.drop_zero]
  repeat still_step
  still_call (HP.out _)
  repeat still_step
  refine wpStill_nil ?_
  clear e1
  go_wp2
  exact bodyPost_ret (v := .agg #[.int .i64 x, .int .i64 ((-y) % 360)]) (by simp [results, Try.results72, go_sem, Z0.out, d1]) rfl ⟨rfl, ((HB.out.drew).setCell (by simp) _).setCell (by simp) _⟩

theorem at_gk {ps : List (Int × Int)} {N i j : Nat} {n : Int} (hv : visB (N : Int) ps = true) (h7 : N ≤ 7) (hi : i < N) (hj : j < N) (hne : i ≠ j) : gk N i j < ps.length ∧ 1 ≤ g1 ps (gk N i j) ∧ g1 ps (gk N i j) ≤ 1000000 ∧ 0 ≤ g2 ps (gk N i j) ∧ g2 ps (gk N i j) < 360 := by
  have h := gk_nb h7 hi hj hne
  have hl := visB_len hv
  exact ⟨by omega, allV_bd (visB_ok hv).2.2 (by omega)⟩

set_option maxHeartbeats 1000000 in
theorem visGet_any (N i j : Nat) (A : Option Addr) (c : Nat) (ps : List (Int × Int)) (w : World) (h : Rd w A (pairs ps)) (hv : visB (N : Int) ps = true) (h7 : N ≤ 7) (hi : i < N) (hj : j < N) (hne : i ≠ j) {m : Nat} (hm : ps.length = m) :
    Calls Try.prog 61 #[.int .i64 (N : Int), .slice A m c, .int .i64 (i : Int), .int .i64 (j : Int)] w fun e w' => e = .returned (.agg #[.int .i64 (g1 ps (gk N i j)), .int .i64 (vph ps N i j)]) ∧ Below w.heap.size w w' := by
  subst hm
  obtain ⟨k1, k2, k3, k4, k5⟩ := at_gk (n := 0) hv h7 hi hj hne
  obtain ⟨b, off, rfl, hb, hc1, hc2⟩ := h.pair_at k1
  have i1 : ((gk N i j : Nat) : Int) < (ps.length : Int) := by omega
  have HN := Lib.hid hne
  clear hne
  have HG := Lib.hid (baseAt_any N i j · h7 hi hj HN.out)
  by_cases hij : j < i
  · rw [vph_gt hij]
    generalize gk N i j = k at *
    have hij2 : (j : Int) < (i : Int) := by omega
    go_enter Try.func61, Try.ntmps61
    go_wp2_with (go_at_call 53; refine (HG.out _).mono ?_; rintro e w' ⟨rfl, rfl⟩)
    refine (opposite_any _ _ _ k4 k5).mono ?_
    rintro e w1 ⟨rfl, b1⟩
    have hblk : w1.heap[w.heap.size]? = some (.cells #[.int .i64 0, .int .i64 0] 44 (0, 0)) := by
      rw [b1.block _ (by simp; omega), Below.heap_alloc _ _ _ (by simp)]
      exact heap_alloc_new w _
    obtain ⟨c0, c1, f0, f1, hl1, z0⟩ := box_two hblk (.int .i64 (g1 ps k))
    have HB := Lib.hid ((((Below.refl w.heap.size w).alloc (Nat.le_refl _) _).alloc (by simp) _).trans (b1.mono (by simp; omega)))
    have Z0 := Lib.hid z0
    clear b1 hblk z0
    go_wp2
    exact bodyPost_ret (v := .agg #[.int .i64 (g1 ps k), .int .i64 ((-(g2 ps k)) % 360)]) (by simp [results, Try.results61, go_sem, Z0.out, c1]) rfl ⟨rfl, (HB.out.setCell (Nat.le_refl _) _).setCell (Nat.le_refl _) _⟩
  · have hij' : i < j := by have := HN.out; omega
    rw [vph_lt hij']
    generalize gk N i j = k at *
    go_enter Try.func61, Try.ntmps61
    go_wp2_with (go_at_call 53; refine (HG.out _).mono ?_; rintro e w' ⟨rfl, rfl⟩)
    exact bodyPost_ret (v := .agg #[.int .i64 (g1 ps k), .int .i64 (g2 ps k)]) (by simp [results, Try.results61, go_sem]) rfl ⟨rfl, by go_grown⟩

set_option maxHeartbeats 1000000 in
theorem l11Get_any (N i j : Nat) (A : Option Addr) (c : Nat) (ps : List (Int × Int)) (w : World) (h : Rd w A (pairs ps)) (hv : visB (N : Int) ps = true) (n2 : 2 ≤ N) (h7 : N ≤ 7) (hi : i < N) (hj : j < N) (hne : i ≠ j) {m : Nat} (hm : ps.length = m) :
    Calls Try.prog 58 #[.int .i64 (N : Int), .slice A m c, .int .i64 (i : Int), .int .i64 (j : Int)] w fun e w' => e = .returned (.agg #[.int .i64 (g1 ps (gk N i j)), .int .i64 (vph ps N i j)]) ∧ Below w.heap.size w w' := by
  subst hm
  obtain ⟨k1, k2, k3, k4, k5⟩ := at_gk (n := 0) hv h7 hi hj hne
  obtain ⟨b, off, rfl, hb, hc1, hc2⟩ := h.pair_at k1
  have i1 : ((gk N i j : Nat) : Int) < (ps.length : Int) := by omega
  have HN := Lib.hid hne
  clear hne
  have HG := Lib.hid (sBaseIndex_yes N i j · n2 h7 hi hj HN.out)
  by_cases hij : j < i
  · rw [vph_gt hij]
    generalize gk N i j = k at *
    have hij2 : (j : Int) < (i : Int) := by omega
    go_enter Try.func58, Try.ntmps58
    go_wp2_with (first | (go_at_call 51; refine (HG.out _).mono ?_; rintro e w' ⟨rfl, rfl⟩) | (go_at_call 70; refine (sPhaseOf_any _ _).mono ?_; rintro e w' ⟨rfl, rfl⟩))
    exact bodyPost_ret (v := .agg #[.int .i64 (g1 ps k), .int .i64 ((-(g2 ps k)) % 360)]) (by simp [results, Try.results58, go_sem]) rfl ⟨rfl, by go_grown⟩
  · have hij' : i < j := by have := HN.out; omega
    rw [vph_lt hij']
    generalize gk N i j = k at *
    go_enter Try.func58, Try.ntmps58
    go_wp2_with (go_at_call 51; refine (HG.out _).mono ?_; rintro e w' ⟨rfl, rfl⟩)
    exact bodyPost_ret (v := .agg #[.int .i64 (g1 ps k), .int .i64 (g2 ps k)]) (by simp [results, Try.results58, go_sem]) rfl ⟨rfl, by go_grown⟩

/-- a block that holds a struct of two numbers -/
def BoxV (w : World) (b : Nat) (x y : Int) : Prop := w.heap[b]? = some (.cells #[.int .i64 x, .int .i64 y] 44 (0, 0))
theorem BoxV.below {w w' : World} {b : Nat} {x y : Int} {B : Nat} (h : BoxV w b x y) (hb : Below B w w') (hB : w.heap.size ≤ B) : BoxV w' b x y := by
  unfold BoxV at *
  rw [hb.block b (Nat.lt_of_lt_of_le (Array.getElem?_eq_some_iff.1 h).1 hB)]
  exact h
/-- what VisGet returns -/
def visGet (n : Int) (ps : List (Int × Int)) (i j : Int) : (Int × Int) × Bool :=
  if visB n ps && biB n i j then ((g1 ps (gk n.toNat i.toNat j.toNat), vph ps n.toNat i.toNat j.toNat), true) else ((0, 0), false)
theorem get_mk {N i j : Nat} {ps : List (Int × Int)} (hv : visB (N : Int) ps = true) (hb : biB (N : Int) (i : Int) (j : Int) = true) : visGet (N : Int) ps (i : Int) (j : Int) = ((g1 ps (gk N i j), vph ps N i j), true) := by simp [visGet, hv, hb]
theorem get_no {n : Int} {ps : List (Int × Int)} {i j : Int} (h : (visB n ps && biB n i j) = false) : visGet n ps i j = ((0, 0), false) := by simp [visGet, h]
theorem get_ok {n : Int} {ps : List (Int × Int)} {i j : Int} (h : (visGet n ps i j).2 = true) : ∃ N I J : Nat, n = (N : Int) ∧ i = (I : Int) ∧ j = (J : Int) ∧ 2 ≤ N ∧ N ≤ 7 ∧ I < N ∧ J < N ∧ I ≠ J ∧ visB (N : Int) ps = true := by
  unfold visGet at h
  split at h
  · rename_i hc
    simp only [Bool.and_eq_true] at hc
    obtain ⟨N, I, J, rfl, rfl, rfl, n2, n7, hI, hJ, hne⟩ := biB_nat hc.2
    exact ⟨N, I, J, rfl, rfl, rfl, n2, n7, hI, hJ, hne, hc.1⟩
  · cases h
theorem get_swap {N I J : Nat} {ps : List (Int × Int)} (n2 : 2 ≤ N) (n7 : N ≤ 7) (hI : I < N) (hJ : J < N) (hne : I ≠ J) (hv : visB (N : Int) ps = true) :
    visGet (N : Int) ps (J : Int) (I : Int) = ((g1 ps (gk N I J), (-(vph ps N I J)) % 360), true) ∧ visGet (N : Int) ps (I : Int) (J : Int) = ((g1 ps (gk N I J), vph ps N I J), true) ∧ 0 ≤ vph ps N I J ∧ vph ps N I J < 360 := by
  obtain ⟨_, _, _, k4, k5⟩ := at_gk (n := 0) hv n7 hI hJ hne
  rw [get_mk hv (biB_mk n2 n7 hI hJ hne), get_mk hv (biB_mk n2 n7 hJ hI hne.symm), gk_comm N J I]
  have hp : vph ps N J I = (-(vph ps N I J)) % 360 ∧ 0 ≤ vph ps N I J ∧ vph ps N I J < 360 := by
    rcases Nat.lt_or_gt_of_ne hne with h | h
    · rw [vph_lt h, vph_gt h, gk_comm N J I]; exact ⟨rfl, k4, k5⟩
    · rw [vph_gt h, vph_lt h, gk_comm N J I]; omega
  exact ⟨by rw [hp.1], rfl, hp.2⟩
/-- a struct of two numbers and a bool -/
def RetP (w : World) (r : (Int × Int) × Bool) (e : Ending) (w' : World) : Prop := e = .returned (.tuple #[.agg #[.int .i64 r.1.1, .int .i64 r.1.2], .bool r.2]) ∧ Below w.heap.size w w'

set_option maxHeartbeats 1000000 in
theorem sVisGet_any (n : Int) (A : Option Addr) (c : Nat) (ps : List (Int × Int)) (i j : Int) (w : World) (h : Rd w A (pairs ps)) (hl : ps.length ≤ 1048592) {m : Nat} (hm : ps.length = m) :
    Calls Try.prog 33 #[.int .i64 n, .slice A m c, .int .i64 i, .int .i64 j] w (RetP w (visGet n ps i j)) := by
  subst hm
  have bw : Below w.heap.size w (w.alloc (.cells #[.int .i64 0, .int .i64 0] 44)) := (Below.refl w.heap.size w).alloc (Nat.le_refl _) _
  have h' := h.below bw (Nat.le_refl _)
  cases v1 : visB n ps with
  | false =>
    rw [get_no (by simp [v1])]
    go_enter Try.func33, Try.ntmps33
    go_wp2_with fail
    refine (sVisValid_any _ _ _ _ _ h' hl rfl).mono ?_; rintro e w' ⟨rfl, rfl⟩
    rw [v1]
    go_wp2
    exact bodyPost_ret (v := .tuple #[.agg #[.int .i64 0, .int .i64 0], .bool false]) (by simp [results, Try.results33, go_sem]) rfl ⟨rfl, by go_grown⟩
  | true =>
  cases v2 : biB n i j with
  | false =>
    rw [get_no (by simp [v2])]
    have e1 := bi_no v2
    go_enter Try.func33, Try.ntmps33
    go_wp2_with fail
    refine (sVisValid_any _ _ _ _ _ h' hl rfl).mono ?_; rintro e w' ⟨rfl, rfl⟩
    rw [v1]
    go_wp2_with (go_at_call 51; refine (sBaseIndex_any _ _ _ _).mono ?_; rintro e w' ⟨rfl, rfl⟩; rw [e1])
    exact bodyPost_ret (v := .tuple #[.agg #[.int .i64 0, .int .i64 0], .bool false]) (by simp [results, Try.results33, go_sem]) rfl ⟨rfl, by go_grown⟩
  | true =>
    obtain ⟨N, I, J, rfl, rfl, rfl, n2, n7, hI, hJ, hne⟩ := biB_nat v2
    rw [get_mk v1 v2]
    have HN := Lib.hid hne
    have e1 := bi_mk n2 n7 hI hJ hne
    clear hne
    go_enter Try.func33, Try.ntmps33
    go_wp2_with fail
    refine (sVisValid_any _ _ _ _ _ h' hl rfl).mono ?_; rintro e w' ⟨rfl, rfl⟩
    rw [v1]
    go_wp2_with (go_at_call 51; refine (sBaseIndex_any _ _ _ _).mono ?_; rintro e w' ⟨rfl, rfl⟩; rw [e1])
    refine (l11Get_any N I J _ _ _ _ h' v1 n2 n7 hI hJ HN.out rfl).mono ?_
    rintro e w1 ⟨rfl, b1⟩
    have hblk : w1.heap[w.heap.size]? = some (.cells #[.int .i64 0, .int .i64 0] 44 (0, 0)) := by
      rw [b1.block _ (by simp)]
      exact heap_alloc_new w _
    obtain ⟨c0, c1, f0, f1, hl1, z0⟩ := box_two hblk (.int .i64 (g1 ps (gk N I J)))
    have HB := Lib.hid (bw.trans (b1.mono (by simp)))
    have Z0 := Lib.hid z0
    clear b1 hblk z0 bw e1
    go_wp2
    exact bodyPost_ret (v := .tuple #[.agg #[.int .i64 (g1 ps (gk N I J)), .int .i64 (vph ps N I J)], .bool true]) (by simp [results, Try.results33, go_sem, Z0.out, c1]) rfl ⟨rfl, (HB.out.setCell (Nat.le_refl _) _).setCell (Nat.le_refl _) _⟩

set_option maxHeartbeats 2000000 in
theorem VisGet_any (n : Int) (A : Option Addr) (c : Nat) (ps : List (Int × Int)) (i j : Int) (w : World) (h : Rd w A (pairs ps)) (hl : ps.length ≤ 1048592) {m : Nat} (hm : ps.length = m) :
    Calls Try.prog 35 #[.int .i64 n, .slice A m c, .int .i64 i, .int .i64 j] w (RetP w (visGet n ps i j)) := by
  subst hm
  have bw : Below w.heap.size w (w.alloc (.cells #[.int .i64 0, .int .i64 0] 44)) := (Below.refl w.heap.size w).alloc (Nat.le_refl _) _
  have h' := h.below bw (Nat.le_refl _)
  have fin : ∀ w1 : World, Below (w.alloc (.cells #[.int .i64 0, .int .i64 0] 44)).heap.size (w.alloc (.cells #[.int .i64 0, .int .i64 0] 44)) w1 → w1.heap[w.heap.size]? = some (.cells #[.int .i64 0, .int .i64 0] 44 (0, 0)) ∧ Below w.heap.size w w1 := fun w1 b1 => ⟨by rw [b1.block _ (by simp)]; exact heap_alloc_new w _, bw.trans (b1.mono (by simp))⟩
  have FIN := Lib.hid fin
  clear fin bw
  cases v1 : visB n ps with
  | false =>
    rw [get_no (by simp [v1])]
    go_enter Try.func35, Try.ntmps35
    go_wp2_with fail
    refine (VisValid_any _ _ _ _ _ h' hl rfl).mono ?_
    rintro e w1 ⟨rfl, b1⟩
    rw [v1]
    obtain ⟨hblk, hB⟩ := FIN.out _ b1
    obtain ⟨c0, c1, f0, f1, hl1, z0⟩ := box_two hblk (.int .i64 0)
    have HB := Lib.hid hB
    have Z0 := Lib.hid z0
    clear b1 hblk z0 hB
    go_wp2
    exact bodyPost_ret (v := .tuple #[.agg #[.int .i64 0, .int .i64 0], .bool false]) (by simp [results, Try.results35, go_sem, Z0.out, c1]) rfl ⟨rfl, (HB.out.setCell (Nat.le_refl _) _).setCell (Nat.le_refl _) _⟩
  | true =>
  have hmn := (visB_ok v1).1
  cases v2 : biB n i j with
  | false =>
    rw [get_no (by simp [v2])]
    have hsplit : antB n i = false ∨ (antB n i = true ∧ antB n j = false) ∨ (antB n i = true ∧ antB n j = true ∧ (i == j) = true) := by
      cases a1 : antB n i <;> cases a2 : antB n j <;> simp_all [biB]
    clear hmn
    rcases hsplit with a1 | ⟨a1, a2⟩ | ⟨a1, a2, a3⟩
    all_goals
      go_enter Try.func35, Try.ntmps35
      go_wp2_with fail
      refine (VisValid_any _ _ _ _ _ h' hl rfl).mono ?_
      rintro e w1 ⟨rfl, b1⟩
      rw [v1]
      obtain ⟨hblk, hB⟩ := FIN.out _ b1
      obtain ⟨c0, c1, f0, f1, hl1, z0⟩ := box_two hblk (.int .i64 0)
      have HB := Lib.hid hB
      have Z0 := Lib.hid z0
      clear b1 hblk z0 hB
      go_wp2_with (go_at_call 56; refine (isAnt_any _ _ _).mono ?_; rintro e w' ⟨rfl, rfl⟩)
      exact bodyPost_ret (v := .tuple #[.agg #[.int .i64 0, .int .i64 0], .bool false]) (by simp [results, Try.results35, go_sem, Z0.out, c1]) rfl ⟨rfl, (HB.out.setCell (Nat.le_refl _) _).setCell (Nat.le_refl _) _⟩
  | true =>
    obtain ⟨N, I, J, rfl, rfl, rfl, n2, n7, hI, hJ, hne⟩ := biB_nat v2
    rw [get_mk v1 v2]
    have HN := Lib.hid hne
    have a1 := antB_mk hI
    have a2 := antB_mk hJ
    have a3 : ((I : Int) == (J : Int)) = false := by simp; omega
    clear hne hmn
    go_enter Try.func35, Try.ntmps35
    go_wp2_with fail
    refine (VisValid_any _ _ _ _ _ h' hl rfl).mono ?_
    rintro e w1 ⟨rfl, b1⟩
    rw [v1]
    have h1 := h'.below b1 (Nat.le_refl _)
    go_wp2_with (go_at_call 56; refine (isAnt_any _ _ _).mono ?_; rintro e w' ⟨rfl, rfl⟩)
    refine (visGet_any N I J _ _ _ _ h1 v1 n7 hI hJ HN.out rfl).mono ?_
    rintro e w2 ⟨rfl, b2⟩
    obtain ⟨hblk, hB⟩ := FIN.out _ (bel_trans b1 b2)
    obtain ⟨c0, c1, f0, f1, hl1, z0⟩ := box_two hblk (.int .i64 (g1 ps (gk N I J)))
    have HB := Lib.hid hB
    have Z0 := Lib.hid z0
    clear b1 b2 hblk z0 hB h1 h'
    go_wp2
    exact bodyPost_ret (v := .tuple #[.agg #[.int .i64 (g1 ps (gk N I J)), .int .i64 (vph ps N I J)], .bool true]) (by simp [results, Try.results35, go_sem, Z0.out, c1]) rfl ⟨rfl, (HB.out.setCell (Nat.le_refl _) _).setCell (Nat.le_refl _) _⟩
end Go.Proofs.Ytopneihamefohaa
