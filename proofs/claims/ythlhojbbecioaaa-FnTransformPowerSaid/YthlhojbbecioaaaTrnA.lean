/-
  Contracts of the program's transform of a sky.
-/
import Derived.Test.YthlhojbbecioaaaGau
import Derived.Test.YthlhojbbecioaaaApp
import Derived.Deep.RegionWith
import Derived.BigRegion
import Derived.Deep.AppendLies
import Derived.Deep.DrawnRows
namespace Go.Proofs.Ythlhojbbecioaaa
set_option linter.unusedVariables false
open Go.RowKit
attribute [local go_sem ↓] Go.wp_at_zero Go.wp_at_succ

set_option maxHeartbeats 800000 in
theorem realGrid_any (A : Option Addr) (c : Nat) (s : List Int) (w : World) (h : Rd w A (ints s)) (hl : s.length ≤ 1048592) {n : Nat} (hn : s.length = n) :
    Calls Try.prog 42 #[.slice A n c] w fun e w' => ∃ A' c', e = .returned (.slice A' n c') ∧ Ow w' 31 w.heap.size w'.heap.size A' (pairs (upto (fun j => (gi s j, 0)) n)) ∧ Below w.heap.size w w' := by
  subst hn
  obtain ⟨i0, hi, hz0, hz1, hz2⟩ := info_parts info_Gauss
  go_enter Try.func42, Try.ntmps42
  go_wp2
  go_loopw [3, 8] (fun v i wr => ∃ k : Nat, k ≤ s.length ∧ i = .int .i64 k ∧ ApG w wr 31 v (fun j => (gi s j, 0)) k) (fun _ i _ => s.length - (intOf i).toNat)
  case atStart => exact ⟨0, Nat.zero_le _, rfl, World.ownsRow_nil w _ _ _, Below.refl _ _⟩
  case round =>
    obtain ⟨k, hk, rfl, hown, hbel⟩ := hrel
    by_cases hlt : k < s.length
    · obtain ⟨b, off, rfl, hb, hc⟩ := (h.below hbel (Nat.le_refl _)).int_at hlt
      have m1 := Lib.hid (show k + 1 ≤ maxLen by simp [maxLen]; omega)
      have m2 := Lib.hid (show (k + 1) * 16 ≤ 140737488355328 by omega)
      have m3 := Lib.hid (base_a (o := .cells #[.int .i64 (gi s k), .int .i64 0] 31) hbel.size)
      have H1 := Lib.hid hown
      have H2 := Lib.hid hbel
      clear hown hbel
      go_wp2_with (at_builtin; refine wpList_append_lies _ rfl _ _ 25 rfl w.heap.size 31 i0 (.agg #[.int .i64 0, .int .i64 0]) 2 16 Try.underlying25 hi hz0 hz1 hz2 rfl (by decide) _ k (pairs (upto (fun j => (gi s j, 0)) k)) rfl (H1.out.alloc _) ⟨wr.heap.size, 0, none⟩ 1 1 [.int .i64 (gi s k), .int .i64 0] rfl rfl (news2 _ _ _ _) (one2 _ _) (by decide) m1.out m2.out m3.out _ rfl ?_; intro g cap w1 hown1 hgrow hat hlt1)
      go_roundw
      case rel => exact ⟨k + 1, by omega, by go_num, ApG.step (f := fun j => (gi s j, 0)) ⟨H1.out, H2.out⟩ hown1 hgrow⟩
      case measure => simp [intOf]; omega
    · obtain rfl : k = s.length := by omega
      obtain ⟨Ao, co, rfl, hco, _⟩ := own_shape hown
      have ho := Ow.of_own hown
      clear hown
      go_wp2
      go_ret
      exact ⟨Ao, co, rfl, ho, hbel⟩

/-- the cell j while the sum of the cell t has its first k terms -/
def ev (s : List Int) (t k j : Nat) : Int × Int := if j < t then (tre s j 16, tim s j 16) else if j = t then (tre s t k, tim s t k) else (0, 0)
theorem ev_at (s : List Int) (t k : Nat) : ev s t k t = (tre s t k, tim s t k) := by simp [ev]
theorem g1_zero (n j : Nat) : g1 (List.replicate n (0, 0)) j = 0 := by
  simp only [g1, List.getD_eq_getElem?_getD, List.getElem?_replicate]; split <;> rfl
theorem g2_zero (n j : Nat) : g2 (List.replicate n (0, 0)) j = 0 := by
  simp only [g2, List.getD_eq_getElem?_getD, List.getElem?_replicate]; split <;> rfl
theorem ev_zero (s : List Int) : upto (ev s 0 0) 16 = List.replicate 16 (0, 0) := by
  have h0 : ∀ j, ev s 0 0 j = (0, 0) := fun j => by
    unfold ev
    rw [if_neg (by omega)]
    split <;> rfl
  refine pairs_inj (by simp) (fun j hj => ?_) (fun j hj => ?_)
  · rw [g1_upto _ (by simpa using hj), g1_zero, h0]
  · rw [g2_upto _ (by simpa using hj), g2_zero, h0]
theorem ev_step (s : List Int) {t : Nat} (k : Nat) (ht : t < 16) : (upto (ev s t k) 16).set t (tre s t (k + 1), tim s t (k + 1)) = upto (ev s t (k + 1)) 16 := by
  rw [← ev_at s t (k + 1)]
  exact upto_set _ _ ht (fun j _ hne => by simp [ev, hne])
theorem ev_next (s : List Int) (t : Nat) : upto (ev s t 16) 16 = upto (ev s (t + 1) 0) 16 := by
  refine upto_congr fun j _ => ?_
  unfold ev
  by_cases h1 : j < t
  · rw [if_pos h1, if_pos (by omega)]
  · rw [if_neg h1]
    by_cases h2 : j = t
    · rw [if_pos h2, if_pos (by omega), h2]
    · rw [if_neg h2, if_neg (by omega)]
      split <;> rfl
theorem ev_done (s : List Int) : upto (ev s 16 0) 16 = trn s := upto_congr fun j hj => by simp [ev, hj]
theorem ex_le {t k : Nat} (ht : t < 16) (hk : k < 16) : ex t k ≤ 18 := by
  unfold ex
  have a1 : t % 4 * (k % 4) ≤ 3 * 3 := Nat.mul_le_mul (by omega) (by omega)
  have a2 : t / 4 * (k / 4) ≤ 3 * 3 := Nat.mul_le_mul (by omega) (by omega)
  omega
theorem ex_int (t k : Nat) : ((ex t k : Nat) : Int) = (t : Int) % 4 * ((k : Int) % 4) + (t : Int) / 4 * ((k : Int) / 4) := by
  unfold ex; simp

/-- a transform in the making -/
def TrW (w wr : World) (s : List Int) (t k : Nat) : Prop :=
  Ow wr 31 w.heap.size (w.heap.size + 1) (some ⟨w.heap.size, 0, none⟩) (pairs (upto (ev s t k) 16)) ∧ Below w.heap.size w wr ∧ w.heap.size + 1 ≤ wr.heap.size
theorem trw_step {w wr w' : World} {s : List Int} {t k : Nat} (h3 : Ow wr 31 w.heap.size (w.heap.size + 1) (some ⟨w.heap.size, 0, none⟩) (pairs (upto (ev s t k) 16))) (h4 : Below w.heap.size w w') (hb : Below wr.heap.size wr w') (h5 : w.heap.size + 1 ≤ wr.heap.size) (ht : t < 16) :
    TrW w ((w'.setCell ⟨w.heap.size, t * 2, none⟩ (.int .i64 (tre s t k + gi s k * ure (ex t k)))).setCell ⟨w.heap.size, t * 2 + 1, none⟩ (.int .i64 (tim s t k + gi s k * uim (ex t k)))) s t (k + 1) := by
  have h3' := h3.below hb h5
  obtain ⟨g, off, e, _, _, _, _, _, _, _, hs, _, _⟩ := h3'.pair_at (k := t) (by simpa using ht)
  injection e with e
  injection e with e1 e2
  subst e1 e2
  have h6 := hs (tre s t (k + 1)) (tim s t (k + 1))
  rw [ev_step s k ht] at h6
  simp only [Nat.zero_add] at h6
  exact ⟨h6, (h4.setCell (Nat.le_refl _) _).setCell (Nat.le_refl _) _, by have := hb.size; simp [World.setCell]; omega⟩
theorem hex_all {t k : Nat} (ht : t < 16) (hk : k < 16) : (t : Int).tmod 4 = (t : Int) % 4 ∧ (k : Int).tmod 4 = (k : Int) % 4 ∧ IntKind.i64.wrap ((t : Int) % 4 * ((k : Int) % 4)) = (t : Int) % 4 * ((k : Int) % 4) ∧ IntKind.i64.wrap ((t : Int) / 4) = (t : Int) / 4 ∧ IntKind.i64.wrap ((k : Int) / 4) = (k : Int) / 4 ∧ IntKind.i64.wrap ((t : Int) / 4 * ((k : Int) / 4)) = (t : Int) / 4 * ((k : Int) / 4) ∧
    IntKind.i64.wrap ((t : Int) % 4 * ((k : Int) % 4) + (t : Int) / 4 * ((k : Int) / 4)) = ((ex t k : Nat) : Int) := by
  have h1 := mul_bd (x := (t : Int) % 4) (y := (k : Int) % 4) (B := 3) (C := 3) (by omega) (by omega)
  have h2 := mul_bd (x := (t : Int) / 4) (y := (k : Int) / 4) (B := 3) (C := 3) (by omega) (by omega)
  refine ⟨Int.tmod_eq_emod_of_nonneg (by omega), Int.tmod_eq_emod_of_nonneg (by omega), IntWalk.i64_in _ (by omega), IntWalk.i64_in _ (by omega), IntWalk.i64_in _ (by omega), IntWalk.i64_in _ (by omega), ?_⟩
  rw [ex_int]
  exact IntWalk.i64_in _ (by omega)
theorem mk16G : ∀ w : World, (Instr.makeSlice 25 (.int .i64 16) (.int .i64 16)).run Try.prog w = .ok (.slice (some ⟨w.heap.size, 0, none⟩) 16 16) (w.alloc (.cells (madeCells #[.int .i64 0, .int .i64 0] (16 * 2)) 31)) := mkGauss 16 (by omega)
set_option maxHeartbeats 4000000 in
theorem transform_any (A : Option Addr) (c : Nat) (s : List Int) (w : World) (vs : skyB s = true) (h : Rd w A (pairs (upto (fun j => (gi s j, 0)) 16))) :
    Calls Try.prog 41 #[.slice A 16 c, .int .i64 1] w fun e w' => ∃ A' c', e = .returned (.slice A' 16 c') ∧ 16 ≤ c' ∧ Ow w' 31 w.heap.size w'.heap.size A' (pairs (trn s)) ∧ Below w.heap.size w w' := by
  have hmk := mk16G
  go_enter Try.func41, Try.ntmps41
  go_wp2
  clear hmk
  go_loopw [12] (fun i wr => ∃ t : Nat, t ≤ 16 ∧ i = .int .i64 t ∧ TrW w wr s t 0) (fun i _ => 16 - (intOf i).toNat)
  case atStart => exact ⟨0, Nat.zero_le _, rfl, by rw [ev_zero]; exact Ow.made2 w _ _, (Below.refl _ _).alloc (Nat.le_refl _) _, by simp⟩
  case round =>
    obtain ⟨t, ht, rfl, hrel⟩ := hrel
    obtain ⟨wo, rfl⟩ : ∃ wo : World, wo = wr := ⟨_, rfl⟩
    by_cases hlt : t < 16
    · have HR := Lib.hid hrel
      clear hrel
      have hd1 : decide ((t : Int) < 16) = true := by simp; omega
      go_wp2
      go_loopw [17] (fun i wr => ∃ k : Nat, k ≤ 16 ∧ i = .int .i64 k ∧ TrW w wr s t k) (fun i _ => 16 - (intOf i).toNat)
      case atStart => exact ⟨0, Nat.zero_le _, rfl, HR.out⟩
      case round =>
        clear HR
        obtain ⟨k, hk, rfl, h3, h4, h5⟩ := hrel
        by_cases hlt2 : k < 16
        · obtain ⟨b1, off, rfl, hb1, hc1, hc2⟩ := (h.below h4 (Nat.le_refl _)).pair_at (k := k) (by simpa using hlt2)
          rw [g1_upto _ hlt2] at hc1
          rw [g2_upto _ hlt2] at hc2
          obtain ⟨g, off', e, hg, hg2, hg3, hd1, hd2, hf1, hf2, _, _, _⟩ := h3.pair_at (k := t) (by simpa using hlt)
          injection e with e
          injection e with e1 e2
          subst e1 e2
          rw [g1_upto _ hlt, ev_at] at hd1
          rw [g2_upto _ hlt, ev_at] at hd2
          simp only [Nat.zero_add] at hd1 hd2 hf1 hf2
          have i1 : (t : Int) < 16 := by omega
          have i2 : (k : Int) < 16 := by omega
          obtain ⟨W0, hW0⟩ : ∃ W0 : World, W0 = wr.alloc (.cells #[.int .i64 (gi s k), .int .i64 0] 31) := ⟨_, rfl⟩
          have b0 : Below wr.heap.size wr W0 := by rw [hW0]; exact (Below.refl _ _).alloc (Nat.le_refl _) _
          have z0 : wr.heap.size + 1 ≤ W0.heap.size := by rw [hW0]; simp
          have x1 : W0.cell? ⟨wr.heap.size, 0, none⟩ = some (.int .i64 (gi s k)) := by rw [hW0]; simp
          have x2 : W0.cell? ⟨wr.heap.size, 1, none⟩ = some (.int .i64 0) := by rw [hW0]; simp
          have KC : Hid (∀ w' : World, Below W0.heap.size W0 w' → w'.cell? ⟨w.heap.size, t * 2, none⟩ = some (.int .i64 (tre s t k)) ∧ w'.cell? ⟨w.heap.size, t * 2 + 1, none⟩ = some (.int .i64 (tim s t k)) ∧ w'.cell? ⟨wr.heap.size, 0, none⟩ = some (.int .i64 (gi s k)) ∧ w'.cell? ⟨wr.heap.size, 1, none⟩ = some (.int .i64 0)) :=
            Lib.hid fun w' hb => ⟨bel_cell hb (by omega) (bel_cell b0 (by omega) hd1), bel_cell hb (by omega) (bel_cell b0 (by omega) hd2), bel_cell hb (by omega) x1, bel_cell hb (by omega) x2⟩
          have KF : Hid (∀ w' : World, Below W0.heap.size W0 w' → w'.frozen? ⟨w.heap.size, t * 2, none⟩ = false ∧ w'.frozen? ⟨w.heap.size, t * 2 + 1, none⟩ = false) :=
            Lib.hid fun w' hb => ⟨bel_free hb (by omega) (bel_free b0 (by omega) hf1), bel_free hb (by omega) (bel_free b0 (by omega) hf2)⟩
          have KO : Hid (∀ w' : World, Below W0.heap.size W0 w' → TrW w ((w'.setCell ⟨w.heap.size, t * 2, none⟩ (.int .i64 (tre s t k + gi s k * ure (ex t k)))).setCell ⟨w.heap.size, t * 2 + 1, none⟩ (.int .i64 (tim s t k + gi s k * uim (ex t k)))) s t (k + 1)) :=
            Lib.hid fun w' hb => trw_step h3 (bel_trans h4 (bel_trans b0 hb)) (bel_trans b0 hb) h5 hlt
          have e0 := hex_all hlt hlt2
          obtain ⟨a1, a2⟩ := tre_bd vs t hk
          obtain ⟨a3, a4⟩ := tim_bd vs t hk
          obtain ⟨a5, a6⟩ := skyB_bd vs k
          have hu := ure_bd (ex t k)
          have hv := uim_bd (ex t k)
          obtain ⟨a7, a8⟩ := mul_bd (skyB_bd vs k) hu
          obtain ⟨a9, a10⟩ := mul_bd (skyB_bd vs k) hv
          have hB0 : Below W0.heap.size W0 W0.drew := (Below.refl W0.heap.size W0).drew
          have B0 := Lib.hid hB0
          have HU := Lib.hid hu
          have HV := Lib.hid hv
          clear h3 h4 hd1 hd2 hf1 hf2 b0 z0 x1 x2 hB0 hu hv
          go_wp2
          rw [← hW0]
          clear hW0
          obtain ⟨q1, q2, q3, q4, q5, q6, q7⟩ := e0
          have he := ex_le hlt hlt2
          generalize ex t k = E at *
          have q8 : IntKind.i64.wrap (E : Int) = (E : Int) := IntWalk.i64_in _ (by clear q1 q2 q3 q4 q5 q6 q7; omega)
          obtain ⟨c01, c02, c03, c04⟩ := KC.out W0 (Below.refl _ _)
          go_region_with ((first | (go_at_call 62; (with_reducible refine (GaussUnit_any E he _).mono ?_); rintro e w1 ⟨rfl, b1⟩; have B1 := bel_trans B0.out b1; obtain ⟨c11, c12, c13, c14⟩ := KC.out _ B1; clear b1) | (go_at_call 61; (with_reducible refine (times_any _ _ _ _ (by omega) HU.out HV.out).mono ?_); rintro e w2 ⟨rfl, b2⟩; have B2 := bel_trans B1 b2; obtain ⟨c21, c22, c23, c24⟩ := KC.out _ B2; clear b2) | (go_at_call 60; (with_reducible refine (plus_any _ _ _ _ _ (by omega) (by omega) (by omega) (by omega)).mono ?_); rintro e w3 ⟨rfl, b3⟩; have B3 := bel_trans B2 b3; clear b3; obtain ⟨f1, f2⟩ := KF.out _ B3; obtain ⟨c31, c32, _⟩ := KC.out _ B3)))
          all_goals
            clear q1 q2 q3 q4 q5 q6 q7 q8
            go_wp2
            go_roundw
            case rel => exact ⟨k + 1, by omega, by go_num, KO.out _ B3⟩
            case measure => simp [intOf]; omega
        · obtain rfl : k = 16 := by omega
          have HF := Lib.hid (show TrW w wr s (t + 1) 0 by unfold TrW; rw [← ev_next]; exact ⟨h3, h4, h5⟩)
          clear h3 h4 h5
          go_wp2
          go_roundw
          case rel => exact ⟨t + 1, by omega, by go_num, HF.out⟩
          case measure => simp [intOf]; omega
    · obtain rfl : t = 16 := by omega
      obtain ⟨h3, h4, h5⟩ := hrel
      rw [ev_done] at h3
      go_wp2
      go_ret
      exact ⟨_, 16, rfl, Nat.le_refl _, h3.mono (Nat.le_refl _) h5, h4⟩
end Go.Proofs.Ythlhojbbecioaaa
