/-
  Contracts of CloseAmp, of the program and of the reference.
-/
import Derived.Test.YtpdekpeknnlfmaaCamp
import Derived.Test.YtpdekpeknnlfmaaApplyS
namespace Go.Proofs.Ytpdekpeknnlfmaa
set_option linter.unusedVariables false
open Go.RowKit

theorem box_bel {W W' : World} {b : Nat} {t : TypeId} {v : Value} (h : Boxed W b t v) (hb : Below W.heap.size W W') : Boxed W' b t v := (hb.block b h.lt).trans h
theorem fieldV0 (x y : Int) (w : World) : (Instr.field 32 (.agg #[.int .i64 x, .int .i64 y]) 0).run Try.prog w = .ok (.int .i64 x) w := by kernel_rfl
theorem fieldV1 (x y : Int) (w : World) : (Instr.field 32 (.agg #[.int .i64 x, .int .i64 y]) 1).run Try.prog w = .ok (.int .i64 y) w := by kernel_rfl
attribute [local go_sem] fieldV0 fieldV1
/-- a fraction and a bool -/
def RetQ (w : World) (r : (Int × Int) × Bool) (e : Ending) (w' : World) : Prop := e = .returned (.tuple #[.int .i64 r.1.1, .int .i64 r.1.2, .bool r.2]) ∧ Below w.heap.size w w'
theorem Ow.lits4 (w : World) (i j k l : Int) (E : TypeId) : Rd (w.alloc (.cells #[.int .i64 i, .int .i64 j, .int .i64 k, .int .i64 l] E)) (some ⟨w.heap.size, 0, none⟩) (ints [i, j, k, l]) := by
  intro _
  refine ⟨w.heap.size, 0, rfl, fun p hp => ?_⟩
  have hh := heap_alloc_new w (.cells #[.int .i64 i, .int .i64 j, .int .i64 k, .int .i64 l] E)
  rw [cell_of_row _ _ _ _ _ _ hh]
  simp only [ints_length, List.length_cons, List.length_nil] at hp
  match p, hp with
  | 0, _ => rfl
  | 1, _ => rfl
  | 2, _ => rfl
  | 3, _ => rfl
theorem quo_num {t g : Int} (t0 : 1 ≤ t) (t1 : t ≤ 1000000000000) (g0 : 1 ≤ g) : (g == 0) = false ∧ t.tdiv g = t / g ∧ IntKind.i64.wrap (t / g) = t / g := by
  have h1 : 0 ≤ t / g := Int.ediv_nonneg (by omega) (by omega)
  have h2 : t / g ≤ t := Int.ediv_le_self _ (by omega)
  exact ⟨by simp; omega, Int.tdiv_eq_ediv_of_nonneg (by omega), IntWalk.i64_in _ (by omega)⟩

set_option maxHeartbeats 400000 in
theorem CloseAmp1_any (N i j : Nat) (A : Option Addr) (c B1 B2 : Nat) (ps : List (Int × Int)) (w : World) (h : Rd w A (pairs ps)) (hv : visB (N : Int) ps = true) (hi : i < N) (hj : j < N) (hne : i ≠ j) {m : Nat} (hm : ps.length = m)
    (x1 : Boxed w B1 23 (.slice A m c)) (x2 : Boxed w B2 3 (.int .i64 (N : Int))) :
    Calls Try.prog 68 #[.int .i64 (i : Int), .int .i64 (j : Int), .pointer (some ⟨B1, 0, none⟩), .pointer (some ⟨B2, 0, none⟩)] w fun e w' => e = .returned (.int .i64 (am ps N i j)) ∧ Below w.heap.size w w' := by
  subst hm
  have hN := vis_N hv
  have hk : gk N i j < ps.length := by rw [visB_len hv]; exact gk_nb hN.2 hi hj hne
  obtain ⟨b, off, rfl, hb, hc1, hc2⟩ := h.pair_at hk
  have i1 : ((gk N i j : Nat) : Int) < (ps.length : Int) := by omega
  have HA := Lib.hid (show am ps N i j = g1 ps (gk N i j) from rfl)
  have HG := Lib.hid (fun (w : World) => baseAt_any N i j w hN.2 hi hj hne)
  have x1c := x1.cell
  have x2c := x2.cell
  have HQ : Hid (∀ (w : World) {n : Nat}, Calls Try.prog 53 #[.int .i64 (N : Int), .int .i64 (i : Int), .int .i64 (j : Int)] (w.drewN n) fun e w'' => e = .returned (.int .i64 ((gk N i j : Nat) : Int)) ∧ ∃ m, w'' = w.drewN m) :=
    Lib.hid fun w n => (HG.out (w.drewN n)).mono fun _ _ ⟨he, hw⟩ => ⟨he, n, hw.symm⟩
  rw [HA.out]
  clear HG HA hne h x1 x2 hv
  generalize gk N i j = k at *
  go_enter Try.func68, Try.ntmps68
  go_wp2
  go_quiet ((go_at_call 53; exact HQ.out _))
  go_wp2
  go_ret
  exact ⟨rfl, below_drewN (Below.refl _ _) _⟩

set_option maxHeartbeats 2000000 in
theorem sCloseAmp_any (n : Int) (A : Option Addr) (c : Nat) (ps : List (Int × Int)) (i j k l : Int) (w : World) (h : Rd w A (pairs ps)) (hl : ps.length ≤ 1048592) {m : Nat} (hm : ps.length = m) :
    Calls Try.prog 26 #[.int .i64 n, .slice A m c, .int .i64 i, .int .i64 j, .int .i64 k, .int .i64 l] w (RetQ w (closeAmp n ps i j k l)) := by
  subst hm
  cases v1 : visB n ps with
  | false =>
    rw [camp_no (by simp [v1])]
    go_enter Try.func26, Try.ntmps26
    go_wp2_with fail
    refine (sVisValid_any _ _ _ _ _ h hl rfl).mono ?_; rintro e w' ⟨rfl, rfl⟩
    rw [v1]
    go_wp2
    go_ret3
    exact ⟨rfl, Below.refl _ _⟩
  | true =>
  have hn := inB_true (visB_ok v1).1
  obtain ⟨hn1, hn2⟩ := hn
  have bw : Below w.heap.size w (w.alloc (.cells #[.int .i64 i, .int .i64 j, .int .i64 k, .int .i64 l] 3)) := (Below.refl w.heap.size w).alloc (Nat.le_refl _) _
  have HR := Lib.hid (Ow.lits4 w i j k l 3)
  cases v2 : apart4 n i j k l with
  | false =>
    rw [camp_no (by simp [v2])]
    go_enter Try.func26, Try.ntmps26
    go_wp2_with fail
    refine (sVisValid_any _ _ _ _ _ h hl rfl).mono ?_; rintro e w' ⟨rfl, rfl⟩
    rw [v1]
    go_wp2_with fail
    refine (l13Apart_any _ _ _ _ _ HR.out (by simp) (by omega) (by omega) rfl).mono ?_; rintro e w1 ⟨rfl, d1⟩
    rw [apL_four, v2]
    have D := bel_trans bw d1
    clear d1
    go_wp2
    go_ret3
    exact ⟨rfl, D⟩
  | true =>
    obtain ⟨N, rfl, n2, n7⟩ := many_nat (visB_ok v1).1
    obtain ⟨I, J, K, L, rfl, rfl, rfl, rfl, hI, hJ, hK, hL, e1, e2, e3, e4, e5, e6⟩ := apart4_nat v2
    rw [camp_mk v1 v2]
    have t := am_top v1 hI hJ hK hL e1 e6
    have b := am_top v1 hI hK hJ hL e2 e5
    have E1 := Lib.hid e1
    have E2 := Lib.hid e2
    have E5 := Lib.hid e5
    have E6 := Lib.hid e6
    obtain ⟨y1, y2⟩ := am_bd v1 hI hJ e1
    obtain ⟨y3, y4⟩ := am_bd v1 hK hL e6
    obtain ⟨y5, y6⟩ := am_bd v1 hI hK e2
    obtain ⟨y7, y8⟩ := am_bd v1 hJ hL e5
    have r1 : g1 ps (gk N I J) = am ps N I J := rfl
    have r2 : g1 ps (gk N K L) = am ps N K L := rfl
    have r3 : g1 ps (gk N I K) = am ps N I K := rfl
    have r4 : g1 ps (gk N J L) = am ps N J L := rfl
    have R1 := Lib.hid r1
    have R2 := Lib.hid r2
    have R3 := Lib.hid r3
    have R4 := Lib.hid r4
    clear e1 e2 e3 e4 e5 e6 r1 r2 r3 r4
    have h' := h.below bw (Nat.le_refl _)
    go_enter Try.func26, Try.ntmps26
    go_wp2_with fail
    refine (sVisValid_any _ _ _ _ _ h hl rfl).mono ?_; rintro e w' ⟨rfl, rfl⟩
    rw [v1]
    go_wp2_with fail
    refine (l13Apart_any _ _ _ _ _ HR.out (by simp) (by omega) (by omega) rfl).mono ?_; rintro e w1 ⟨rfl, d1⟩
    rw [apL_four, v2]
    have D := bel_trans bw d1
    clear d1 bw HR
    go_wp2_with fail
    refine (l11Get_any N I J _ _ _ _ (h.below D (Nat.le_refl _)) v1 n2 n7 hI hJ E1.out rfl).mono ?_; rintro e w2 ⟨rfl, d1⟩
    rw [R1.out]
    replace D := bel_trans D d1
    clear d1
    go_wp2_with fail
    refine (l11Get_any N K L _ _ _ _ (h.below D (Nat.le_refl _)) v1 n2 n7 hK hL E6.out rfl).mono ?_; rintro e w3 ⟨rfl, d1⟩
    rw [R2.out]
    replace D := bel_trans D d1
    clear d1
    go_wp2_with fail
    refine (l11Get_any N I K _ _ _ _ (h.below D (Nat.le_refl _)) v1 n2 n7 hI hK E2.out rfl).mono ?_; rintro e w4 ⟨rfl, d1⟩
    rw [R3.out]
    replace D := bel_trans D d1
    clear d1
    go_wp2_with fail
    refine (l11Get_any N J L _ _ _ _ (h.below D (Nat.le_refl _)) v1 n2 n7 hJ hL E5.out rfl).mono ?_; rintro e w5 ⟨rfl, d1⟩
    rw [R4.out]
    replace D := bel_trans D d1
    clear d1
    obtain ⟨t0, t1⟩ := t
    obtain ⟨b0, b1'⟩ := b
    generalize am ps N I J = a1 at *
    generalize am ps N K L = a2 at *
    generalize am ps N I K = a3 at *
    generalize am ps N J L = a4 at *
    go_wp2_with fail
    refine (l13Gcd_any _ _ _ (by omega) t1 (by omega) b1').mono ?_; rintro e w6 ⟨rfl, rfl⟩
    have gp := gcdI_pos (b := a3 * a4) t0
    obtain ⟨q1, q2, q3⟩ := quo_num t0 t1 gp
    obtain ⟨_, q4, q5⟩ := quo_num b0 b1' gp
    have HF := Lib.hid (show frac (a1 * a2) (a3 * a4) = (a1 * a2 / gcdI (a1 * a2) (a3 * a4), a3 * a4 / gcdI (a1 * a2) (a3 * a4)) from rfl)
    generalize gcdI (a1 * a2) (a3 * a4) = g at *
    generalize a1 * a2 = t at *
    generalize a3 * a4 = b at *
    go_wp2
    go_quiet (fail)
    clear q1 q2 q3 q4 q5
    go_wp2
    go_ret3
    exact ⟨by rw [HF.out]; rfl, below_drewN D _⟩

set_option maxHeartbeats 2000000 in
theorem CloseAmp_any (n : Int) (A : Option Addr) (c : Nat) (ps : List (Int × Int)) (i j k l : Int) (w : World) (h : Rd w A (pairs ps)) (hl : ps.length ≤ 1048592) {m : Nat} (hm : ps.length = m) :
    Calls Try.prog 28 #[.int .i64 n, .slice A m c, .int .i64 i, .int .i64 j, .int .i64 k, .int .i64 l] w (RetQ w (closeAmp n ps i j k l)) := by
  subst hm
  obtain ⟨W0, hW0⟩ : ∃ W0 : World, W0 = (w.alloc (.cells #[.int .i64 n] 3)).alloc (.cells #[.slice A ps.length c] 23) := ⟨_, rfl⟩
  have bw : Below w.heap.size w W0 := by rw [hW0]; exact ((Below.refl _ _).alloc (Nat.le_refl _) _).alloc (by simp) _
  have x1 : Boxed W0 w.heap.size 3 (.int .i64 n) := by rw [hW0]; exact (Boxed.new w _ _).alloc _
  have x2 : Boxed W0 (w.heap.size + 1) 23 (.slice A ps.length c) := by rw [hW0]; have := Boxed.new (w.alloc (.cells #[.int .i64 n] 3)) 23 (.slice A ps.length c); simpa using this
  have hA := h.below bw (Nat.le_refl _)
  cases v1 : visB n ps with
  | false =>
    rw [camp_no (by simp [v1])]
    go_enter Try.func28, Try.ntmps28
    go_wp2_with fail
    rw [← hW0]
    refine (VisValid_any _ _ _ _ _ hA hl rfl).mono ?_; rintro e w1 ⟨rfl, d1⟩
    rw [v1]
    have D := bel_trans bw d1
    clear d1
    go_wp2
    go_ret3
    exact ⟨rfl, D⟩
  | true =>
  have hn := inB_true (visB_ok v1).1
  obtain ⟨hn1, hn2⟩ := hn
  cases v2 : apart4 n i j k l with
  | false =>
    rw [camp_no (by simp [v2])]
    go_enter Try.func28, Try.ntmps28
    go_wp2_with fail
    rw [← hW0]
    refine (VisValid_any _ _ _ _ _ hA hl rfl).mono ?_; rintro e w1 ⟨rfl, d1⟩
    rw [v1]
    have D := bel_trans bw d1
    have c1 := (box_bel x1 d1).cell
    have HR := Lib.hid (Ow.lits4 w1 i j k l 3)
    have bl := (Below.refl w1.heap.size w1).alloc (Nat.le_refl _) (.cells #[.int .i64 i, .int .i64 j, .int .i64 k, .int .i64 l] 3)
    replace D := bel_trans D bl
    clear d1 bl
    go_wp2_with fail
    refine (differentAnts_any _ _ _ _ _ HR.out (by simp) rfl (by simp)).mono ?_; rintro e w' ⟨rfl, rfl⟩
    rw [apL_four, v2]
    go_wp2
    go_ret3
    exact ⟨rfl, D⟩
  | true =>
    obtain ⟨N, rfl, n2, n7⟩ := many_nat (visB_ok v1).1
    obtain ⟨I, J, K, L, rfl, rfl, rfl, rfl, hI, hJ, hK, hL, e1, e2, e3, e4, e5, e6⟩ := apart4_nat v2
    rw [camp_mk v1 v2]
    have t := am_top v1 hI hJ hK hL e1 e6
    have b := am_top v1 hI hK hJ hL e2 e5
    have E1 := Lib.hid e1
    have E2 := Lib.hid e2
    have E5 := Lib.hid e5
    have E6 := Lib.hid e6
    obtain ⟨y1, y2⟩ := am_bd v1 hI hJ e1
    obtain ⟨y3, y4⟩ := am_bd v1 hK hL e6
    obtain ⟨y5, y6⟩ := am_bd v1 hI hK e2
    obtain ⟨y7, y8⟩ := am_bd v1 hJ hL e5
    clear e1 e2 e3 e4 e5 e6
    go_enter Try.func28, Try.ntmps28
    go_wp2_with fail
    rw [← hW0]
    refine (VisValid_any _ _ _ _ _ hA hl rfl).mono ?_; rintro e w1 ⟨rfl, d1⟩
    rw [v1]
    have D := bel_trans bw d1
    have c1 := (box_bel x1 d1).cell
    have HR := Lib.hid (Ow.lits4 w1 I J K L 3)
    have bl := (Below.refl w1.heap.size w1).alloc (Nat.le_refl _) (.cells #[.int .i64 I, .int .i64 J, .int .i64 K, .int .i64 L] 3)
    replace D := bel_trans D bl
    have z1 := box_bel (box_bel x1 d1) bl
    have z2 := box_bel (box_bel x2 d1) bl
    clear d1 bl
    go_wp2_with fail
    refine (differentAnts_any _ _ _ _ _ HR.out (by simp) rfl (by simp)).mono ?_; rintro e w' ⟨rfl, rfl⟩
    rw [apL_four, v2]
    obtain ⟨W2, hW2⟩ : ∃ W : World, W = w1.alloc (.cells #[.int .i64 (I : Int), .int .i64 (J : Int), .int .i64 (K : Int), .int .i64 (L : Int)] 3) := ⟨_, rfl⟩
    rw [← hW2] at D z1 z2 ⊢
    clear hW2 HR c1 hW0
    go_wp2_with fail
    refine (CloseAmp1_any N I J _ _ _ _ _ _ (h.below D (Nat.le_refl _)) v1 hI hJ E1.out rfl z2 z1).mono ?_; rintro e w3 ⟨rfl, d1⟩
    replace D := bel_trans D d1
    replace z1 := box_bel z1 d1
    replace z2 := box_bel z2 d1
    clear d1
    go_wp2_with fail
    refine (CloseAmp1_any N K L _ _ _ _ _ _ (h.below D (Nat.le_refl _)) v1 hK hL E6.out rfl z2 z1).mono ?_; rintro e w4 ⟨rfl, d1⟩
    replace D := bel_trans D d1
    replace z1 := box_bel z1 d1
    replace z2 := box_bel z2 d1
    clear d1
    go_wp2_with fail
    refine (CloseAmp1_any N I K _ _ _ _ _ _ (h.below D (Nat.le_refl _)) v1 hI hK E2.out rfl z2 z1).mono ?_; rintro e w5 ⟨rfl, d1⟩
    replace D := bel_trans D d1
    replace z1 := box_bel z1 d1
    replace z2 := box_bel z2 d1
    clear d1
    go_wp2_with fail
    refine (CloseAmp1_any N J L _ _ _ _ _ _ (h.below D (Nat.le_refl _)) v1 hJ hL E5.out rfl z2 z1).mono ?_; rintro e w6 ⟨rfl, d1⟩
    replace D := bel_trans D d1
    clear d1 z1 z2
    obtain ⟨t0, t1⟩ := t
    obtain ⟨b0, b1'⟩ := b
    generalize am ps N I J = a1 at *
    generalize am ps N K L = a2 at *
    generalize am ps N I K = a3 at *
    generalize am ps N J L = a4 at *
    go_wp2_with fail
    refine (gcd_any _ _ _ (by omega) t1 (by omega) b1').mono ?_; rintro e w7 ⟨rfl, d1⟩
    replace D := bel_trans D d1
    clear d1
    have gp := gcdI_pos (b := a3 * a4) t0
    obtain ⟨q1, q2, q3⟩ := quo_num t0 t1 gp
    obtain ⟨_, q4, q5⟩ := quo_num b0 b1' gp
    have HF := Lib.hid (show frac (a1 * a2) (a3 * a4) = (a1 * a2 / gcdI (a1 * a2) (a3 * a4), a3 * a4 / gcdI (a1 * a2) (a3 * a4)) from rfl)
    generalize gcdI (a1 * a2) (a3 * a4) = g at *
    generalize a1 * a2 = t at *
    generalize a3 * a4 = b at *
    go_wp2
    go_quiet (fail)
    clear q1 q2 q3 q4 q5
    go_wp2
    go_ret3
    exact ⟨by rw [HF.out]; rfl, below_drewN D _⟩
end Go.Proofs.Ytpdekpeknnlfmaa
