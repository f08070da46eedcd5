/-
  Contracts of GaussValid and GridValid, of the program and of the reference.
-/
import Derived.Test.YtfigjmlipffdpaaGaussS
import Derived.Test.YtfigjmlipffdpaaSkyA
namespace Go.Proofs.Ytfigjmlipffdpaa
set_option linter.unusedVariables false
open Go.RowKit

def gaussB (x y : Int) : Bool := inB x (-1000000000) 1000000000 && inB y (-1000000000) 1000000000
def allG (ps : List (Int × Int)) : Bool := ps.all fun p => gaussB p.1 p.2
def gridB (ps : List (Int × Int)) : Bool := decide (ps.length = 16) && allG ps
def GoodTo (ps : List (Int × Int)) (k : Nat) : Prop := ∀ j, j < k → gaussB (g1 ps j) (g2 ps j) = true
theorem GoodTo.step {ps : List (Int × Int)} {k : Nat} (h : GoodTo ps k) (e : gaussB (g1 ps k) (g2 ps k) = true) : GoodTo ps (k + 1) := fun j hj => by
  by_cases hjk : j = k
  · rw [hjk]; exact e
  · exact h j (by omega)
theorem g12_get {ps : List (Int × Int)} {j : Nat} (h : j < ps.length) : g1 ps j = ps[j].1 ∧ g2 ps j = ps[j].2 := by simp [g1, g2, h]
theorem GoodTo.all {ps : List (Int × Int)} (h : GoodTo ps ps.length) : allG ps = true := by
  unfold allG
  rw [List.all_eq_true]
  intro p hp
  obtain ⟨j, hj, rfl⟩ := List.mem_iff_getElem.1 hp
  rw [← (g12_get hj).1, ← (g12_get hj).2]
  exact h j hj
theorem allG_at {ps : List (Int × Int)} (h : allG ps = true) {j : Nat} (hj : j < ps.length) : gaussB (g1 ps j) (g2 ps j) = true := by
  unfold allG at h
  rw [List.all_eq_true] at h
  rw [(g12_get hj).1, (g12_get hj).2]
  exact h _ (List.getElem_mem hj)
theorem allG_not {ps : List (Int × Int)} {j : Nat} (hj : j < ps.length) (h : gaussB (g1 ps j) (g2 ps j) = false) : allG ps = false := by
  cases hh : allG ps with
  | false => rfl
  | true => rw [allG_at hh hj] at h; cases h

set_option maxHeartbeats 400000 in
theorem GaussValid_any (x y : Int) (w : World) : Calls Try.prog 60 #[.agg #[.int .i64 x, .int .i64 y]] w fun e w' => e = .returned (.bool (gaussB x y)) ∧ Below w.heap.size w w' := by
  cases hx : inB x (-1000000000) 1000000000 with
  | false =>
    go_enter Try.func60, Try.ntmps60
    go_wp2_with fail
    refine (inRange_any _ _ _ (by omega) (by omega)).mono ?_; rintro e w' ⟨rfl, rfl⟩
    go_wp2
    go_ret
    exact ⟨ret_bool (by simp [gaussB, hx]), by go_grown⟩
  | true =>
    go_enter Try.func60, Try.ntmps60
    go_wp2_with fail
    refine (inRange_any _ _ _ (by omega) (by omega)).mono ?_; rintro e w' ⟨rfl, rfl⟩
    go_wp2_with fail
    refine (inRange_any _ _ _ (by omega) (by omega)).mono ?_; rintro e w' ⟨rfl, rfl⟩
    go_wp2
    go_ret
    exact ⟨ret_bool (by simp [gaussB, hx]), by go_grown⟩
set_option maxHeartbeats 400000 in
theorem sGaussValid_any (x y : Int) (w : World) : Calls Try.prog 48 #[.agg #[.int .i64 x, .int .i64 y]] w fun e w' => e = .returned (.bool (gaussB x y)) ∧ Below w.heap.size w w' := by
  cases hx : inB x (-1000000000) 1000000000 with
  | false =>
    go_enter Try.func48, Try.ntmps48
    go_wp2_with fail
    refine (l6In_any _ _ _ _).mono ?_; rintro e w' ⟨rfl, rfl⟩
    go_wp2
    go_ret
    exact ⟨ret_bool (by simp [gaussB, hx]), by go_grown⟩
  | true =>
    go_enter Try.func48, Try.ntmps48
    go_wp2_with fail
    refine (l6In_any _ _ _ _).mono ?_; rintro e w' ⟨rfl, rfl⟩
    go_wp2_with fail
    refine (l6In_any _ _ _ _).mono ?_; rintro e w' ⟨rfl, rfl⟩
    go_wp2
    go_ret
    exact ⟨ret_bool (by simp [gaussB, hx]), by go_grown⟩

set_option maxHeartbeats 800000 in
theorem allGauss_any (A : Option Addr) (c : Nat) (ps : List (Int × Int)) (w : World) (h : Rd w A (pairs ps)) (hl : ps.length ≤ 1048592) {n : Nat} (hn : ps.length = n) :
    Calls Try.prog 50 #[.slice A n c] w fun e w' => e = .returned (.bool (allG ps)) ∧ Below w.heap.size w w' := by
  subst hn
  go_enter Try.func50, Try.ntmps50
  go_wp2
  go_loopw [7] (fun i wr => ∃ k : Nat, k ≤ ps.length ∧ i = .int .i64 k ∧ GoodTo ps k ∧ Below w.heap.size w wr) (fun i _ => ps.length - (intOf i).toNat)
  case atStart => exact ⟨0, Nat.zero_le _, rfl, fun j hj => absurd hj (by omega), Below.refl _ _⟩
  case round =>
    obtain ⟨k, hk, rfl, hin, hbel⟩ := hrel
    by_cases hlt : k < ps.length
    · obtain ⟨b, off, rfl, hb, hc1, hc2⟩ := (h.below hbel (Nat.le_refl _)).pair_at hlt
      go_wp2_with fail
      refine (GaussValid_any _ _ _).mono ?_
      rintro e w1 ⟨rfl, b1⟩
      have HB := Lib.hid (bel_trans (hbel.alloc hbel.size _) b1)
      clear b1
      cases hi : gaussB (g1 ps k) (g2 ps k) with
      | true =>
        have hs := hin.step hi
        go_wp2
        go_roundw
        case rel => exact ⟨k + 1, by omega, by go_num, hs, HB.out⟩
        case measure => simp [intOf]; omega
      | false =>
        have hs := allG_not hlt hi
        go_wp2
        go_ret
        exact ⟨ret_bool hs.symm, HB.out⟩
    · obtain rfl : k = ps.length := by omega
      have hs := Lib.hid hin.all
      go_wp2
      go_ret
      exact ⟨ret_bool hs.out.symm, hbel⟩
theorem GridValid_any (A : Option Addr) (c : Nat) (ps : List (Int × Int)) (w : World) (h : Rd w A (pairs ps)) (hl : ps.length ≤ 1048592) {n : Nat} (hn : ps.length = n) :
    Calls Try.prog 25 #[.slice A n c] w fun e w' => e = .returned (.bool (gridB ps)) ∧ Below w.heap.size w w' := by
  subst hn
  by_cases hz : ps.length = 16
  · have hb : (((ps.length : Nat) : Int) == 16) = true := by simp; omega
    have HZ := Lib.hid hz
    clear hz
    go_enter Try.func25, Try.ntmps25
    go_wp2_with fail
    refine (allGauss_any _ _ _ _ h hl rfl).mono ?_; rintro e w1 ⟨rfl, b1⟩
    go_wp2
    go_ret
    exact ⟨ret_bool (by simp [gridB, HZ.out]), b1⟩
  · have hb : (((ps.length : Nat) : Int) == 16) = false := by simp; omega
    go_enter Try.func25, Try.ntmps25
    go_wp2
    go_ret
    exact ⟨ret_bool (by simp [gridB, hz]), Below.refl _ _⟩
set_option maxHeartbeats 800000 in
theorem sGridValid_any (A : Option Addr) (c : Nat) (ps : List (Int × Int)) (w : World) (h : Rd w A (pairs ps)) (hl : ps.length ≤ 1048592) {n : Nat} (hn : ps.length = n) :
    Calls Try.prog 23 #[.slice A n c] w fun e w' => e = .returned (.bool (gridB ps)) ∧ Below w.heap.size w w' := by
  subst hn
  go_enter Try.func23, Try.ntmps23
  go_wp2
  go_loopw [3] (fun i wr => ∃ k : Nat, k ≤ ps.length ∧ i = .int .i64 k ∧ GoodTo ps k ∧ Below w.heap.size w wr) (fun i _ => ps.length - (intOf i).toNat)
  case atStart => exact ⟨0, Nat.zero_le _, rfl, fun j hj => absurd hj (by omega), Below.refl _ _⟩
  case round =>
    obtain ⟨k, hk, rfl, hin, hbel⟩ := hrel
    by_cases hlt : k < ps.length
    · obtain ⟨b, off, rfl, hb, hc1, hc2⟩ := (h.below hbel (Nat.le_refl _)).pair_at hlt
      go_wp2_with fail
      refine (sGaussValid_any _ _ _).mono ?_
      rintro e w1 ⟨rfl, b1⟩
      have HB := Lib.hid (bel_trans hbel b1)
      clear b1
      cases hi : gaussB (g1 ps k) (g2 ps k) with
      | true =>
        have hs := hin.step hi
        go_wp2
        go_roundw
        case rel => exact ⟨k + 1, by omega, by go_num, hs, HB.out⟩
        case measure => simp [intOf]; omega
      | false =>
        have hs := allG_not hlt hi
        go_wp2
        go_ret
        exact ⟨ret_bool (by simp [gridB, hs]), HB.out⟩
    · obtain rfl : k = ps.length := by omega
      have hs := Lib.hid hin.all
      go_wp2
      go_ret
      exact ⟨ret_bool (by rw [Bool.eq_iff_iff]; simp [gridB, hs.out]; omega), hbel⟩
end Go.Proofs.Ytfigjmlipffdpaa
