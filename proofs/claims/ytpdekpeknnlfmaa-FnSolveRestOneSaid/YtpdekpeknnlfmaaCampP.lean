/-
  Plain mathematics of closure amplitudes. No program is walked here.
-/
import Derived.Test.YtpdekpeknnlfmaaApplyL
import Derived.Test.YtpdekpeknnlfmaaGet
namespace Go.Proofs.Ytpdekpeknnlfmaa
set_option linter.unusedVariables false

def beqI (a b : Int) : Bool := a == b
/-- four different antennas -/
def apart4 (n i j k l : Int) : Bool := antB n i && antB n j && antB n k && antB n l && !(i == j) && !(i == k) && !(j == k) && !(i == l) && !(j == l) && !(k == l)
theorem apart4_nat {N : Nat} {i j k l : Int} (h : apart4 (N : Int) i j k l = true) : ∃ I J K L : Nat, i = (I : Int) ∧ j = (J : Int) ∧ k = (K : Int) ∧ l = (L : Int) ∧ I < N ∧ J < N ∧ K < N ∧ L < N ∧ I ≠ J ∧ I ≠ K ∧ J ≠ K ∧ I ≠ L ∧ J ≠ L ∧ K ≠ L := by
  simp only [apart4, Bool.and_eq_true, Bool.not_eq_true', beq_eq_false_iff_ne] at h
  obtain ⟨⟨⟨⟨⟨⟨⟨⟨⟨h1, h2⟩, h3⟩, h4⟩, e1⟩, e2⟩, e3⟩, e4⟩, e5⟩, e6⟩ := h
  obtain ⟨I, rfl, hI⟩ := ant_nat h1
  obtain ⟨J, rfl, hJ⟩ := ant_nat h2
  obtain ⟨K, rfl, hK⟩ := ant_nat h3
  obtain ⟨L, rfl, hL⟩ := ant_nat h4
  exact ⟨I, J, K, L, rfl, rfl, rfl, rfl, hI, hJ, hK, hL, by omega, by omega, by omega, by omega, by omega, by omega⟩
theorem apart4_mk {N I J K L : Nat} (hI : I < N) (hJ : J < N) (hK : K < N) (hL : L < N) (e1 : I ≠ J) (e2 : I ≠ K) (e3 : J ≠ K) (e4 : I ≠ L) (e5 : J ≠ L) (e6 : K ≠ L) : apart4 (N : Int) (I : Int) (J : Int) (K : Int) (L : Int) = true := by
  simp only [apart4, antB_mk hI, antB_mk hJ, antB_mk hK, antB_mk hL, Bool.true_and, Bool.and_eq_true, Bool.not_eq_true', beq_eq_false_iff_ne]
  omega
/-- the amplitude of the baseline of two antennas -/
def am (ps : List (Int × Int)) (N i j : Nat) : Int := g1 ps (gk N i j)
theorem am_comm (ps : List (Int × Int)) (N i j : Nat) : am ps N i j = am ps N j i := by unfold am; rw [gk_comm]
theorem am_bd {ps : List (Int × Int)} {N i j : Nat} (hv : visB (N : Int) ps = true) (hi : i < N) (hj : j < N) (hne : i ≠ j) : 1 ≤ am ps N i j ∧ am ps N i j ≤ 1000000 := by
  have hN := vis_N hv
  have := vis_at hv (gk_nb hN.2 hi hj hne)
  exact ⟨this.1, this.2.1⟩
theorem am_top {ps : List (Int × Int)} {N i j k l : Nat} (hv : visB (N : Int) ps = true) (hi : i < N) (hj : j < N) (hk : k < N) (hl : l < N) (h1 : i ≠ j) (h2 : k ≠ l) : 1 ≤ am ps N i j * am ps N k l ∧ am ps N i j * am ps N k l ≤ 1000000000000 := by
  have a := am_bd hv hi hj h1
  have b := am_bd hv hk hl h2
  refine ⟨mul_pos2 a.1 b.1, ?_⟩
  have := Int.mul_le_mul a.2 b.2 (by omega) (by omega)
  omega
/-- the greatest common divisor, as an integer -/
def gcdI (a b : Int) : Int := ((Int.gcd a b : Nat) : Int)
theorem gcdI_pos {a b : Int} (h : 1 ≤ a) : 1 ≤ gcdI a b := by
  unfold gcdI
  have : 0 < Int.gcd a b := Int.gcd_pos_of_ne_zero_left b (by omega)
  omega
theorem gcdI_le {a b : Int} (h : 1 ≤ a) : gcdI a b ≤ a := by
  unfold gcdI
  have := Int.le_of_dvd (by omega) (Int.gcd_dvd_left a b)
  exact this
theorem gcdI_comm (a b : Int) : gcdI a b = gcdI b a := by unfold gcdI; rw [Int.gcd_comm]
theorem gcdI_l (a b : Int) : a / gcdI a b * gcdI a b = a := Int.ediv_mul_cancel (Int.gcd_dvd_left a b)
theorem gcdI_r (a b : Int) : b / gcdI a b * gcdI a b = b := Int.ediv_mul_cancel (Int.gcd_dvd_right a b)
theorem gcdI_step {a b : Int} (ha : 0 ≤ a) (hb : 0 ≤ b) : gcdI b (a % b) = gcdI a b := by
  obtain ⟨x, rfl⟩ := Int.eq_ofNat_of_zero_le ha
  obtain ⟨y, rfl⟩ := Int.eq_ofNat_of_zero_le hb
  have e : ((x : Int) % (y : Int)).natAbs = x % y := rfl
  simp only [gcdI, Int.gcd, Int.natAbs_natCast, e]
  rw [Nat.gcd_comm y, ← Nat.gcd_rec, Nat.gcd_comm]
theorem gcdI_zero {a : Int} (ha : 0 ≤ a) : gcdI a 0 = a := by
  unfold gcdI
  simp
  omega
def frac (t b : Int) : Int × Int := (t / gcdI t b, b / gcdI t b)
theorem frac_pos {t b : Int} (ht : 1 ≤ t) (hb : 1 ≤ b) : 1 ≤ (frac t b).1 ∧ 1 ≤ (frac t b).2 ∧ (frac t b).1 ≤ t ∧ (frac t b).2 ≤ b := by
  have hg := gcdI_pos (b := b) ht
  have h1 := gcdI_l t b
  have h2 := gcdI_r t b
  unfold frac
  simp only []
  generalize gcdI t b = g at *
  have p1 : 0 ≤ t / g := Int.ediv_nonneg (by omega) (by omega)
  have p2 : 0 ≤ b / g := Int.ediv_nonneg (by omega) (by omega)
  have q1 : t / g ≠ 0 := fun e => by rw [e] at h1; omega
  have q2 : b / g ≠ 0 := fun e => by rw [e] at h2; omega
  exact ⟨by omega, by omega, Int.ediv_le_self _ (by omega), Int.ediv_le_self _ (by omega)⟩
theorem frac_turn (t b : Int) : frac b t = ((frac t b).2, (frac t b).1) := by
  unfold frac
  rw [gcdI_comm b t]
theorem frac_mul {t b : Int} (G : Int) (hG : 1 ≤ G) (ht : 1 ≤ t) : frac (t * G) (b * G) = frac t b := by
  have hg : gcdI (t * G) (b * G) = gcdI t b * G := by
    unfold gcdI
    rw [Int.gcd_mul_right, Int.natCast_mul]
    congr 1
    omega
  unfold frac
  rw [hg, Int.mul_ediv_mul_of_pos_left _ _ (by omega), Int.mul_ediv_mul_of_pos_left _ _ (by omega)]
/-- three fractions whose product is 1 -/
theorem frac_three {p q r : Int} (hp : 1 ≤ p) (hq : 1 ≤ q) (hr : 1 ≤ r) : (frac p q).1 * (frac q r).1 * (frac r p).1 = (frac p q).2 * (frac q r).2 * (frac r p).2 := by
  have g1' := gcdI_pos (b := q) hp
  have g2' := gcdI_pos (b := r) hq
  have g3' := gcdI_pos (b := p) hr
  have a1 := gcdI_l p q
  have a2 := gcdI_r p q
  have b1' := gcdI_l q r
  have b2' := gcdI_r q r
  have c1 := gcdI_l r p
  have c2 := gcdI_r r p
  unfold frac
  simp only []
  generalize gcdI p q = x at *
  generalize gcdI q r = y at *
  generalize gcdI r p = z at *
  generalize p / x = A at *
  generalize q / x = B at *
  generalize q / y = C at *
  generalize r / y = D at *
  generalize r / z = E at *
  generalize p / z = F at *
  have hx : x * y * z ≠ 0 := by
    have h1 := mul_pos2 g1' g2'
    have h2 := mul_pos2 h1 g3'
    omega
  refine Int.eq_of_mul_eq_mul_right hx ?_
  have e1 : A * C * E * (x * y * z) = (A * x) * (C * y) * (E * z) := by simp only [Int.mul_left_comm, Int.mul_comm]
  have e2 : B * D * F * (x * y * z) = (B * x) * (D * y) * (F * z) := by simp only [Int.mul_left_comm, Int.mul_comm]
  rw [e1, e2, a1, a2, b1', b2', c1, c2]
  simp only [Int.mul_left_comm, Int.mul_comm]

def closeAmp (n : Int) (ps : List (Int × Int)) (i j k l : Int) : (Int × Int) × Bool :=
  if (visB n ps && apart4 n i j k l) = true then (frac (am ps n.toNat i.toNat j.toNat * am ps n.toNat k.toNat l.toNat) (am ps n.toNat i.toNat k.toNat * am ps n.toNat j.toNat l.toNat), true) else ((0, 0), false)
theorem camp_no {n : Int} {ps : List (Int × Int)} {i j k l : Int} (h : (visB n ps && apart4 n i j k l) = false) : closeAmp n ps i j k l = ((0, 0), false) := by simp [closeAmp, h]
theorem camp_mk {N I J K L : Nat} {ps : List (Int × Int)} (hv : visB (N : Int) ps = true) (ha : apart4 (N : Int) (I : Int) (J : Int) (K : Int) (L : Int) = true) :
    closeAmp (N : Int) ps (I : Int) (J : Int) (K : Int) (L : Int) = (frac (am ps N I J * am ps N K L) (am ps N I K * am ps N J L), true) := by simp [closeAmp, hv, ha]
theorem camp_ok {n : Int} {ps : List (Int × Int)} {i j k l : Int} (h : (closeAmp n ps i j k l).2 = true) : ∃ N I J K L : Nat, n = (N : Int) ∧ i = (I : Int) ∧ j = (J : Int) ∧ k = (K : Int) ∧ l = (L : Int) ∧ visB (N : Int) ps = true ∧ I < N ∧ J < N ∧ K < N ∧ L < N ∧ I ≠ J ∧ I ≠ K ∧ J ≠ K ∧ I ≠ L ∧ J ≠ L ∧ K ≠ L := by
  unfold closeAmp at h
  split at h
  · rename_i hc
    simp only [Bool.and_eq_true] at hc
    obtain ⟨N, rfl, _, _⟩ := many_nat (visB_ok hc.1).1
    obtain ⟨I, J, K, L, rfl, rfl, rfl, rfl, r⟩ := apart4_nat hc.2
    exact ⟨N, I, J, K, L, rfl, rfl, rfl, rfl, rfl, hc.1, r⟩
  · cases h
theorem camp_bd (n : Int) (ps : List (Int × Int)) (i j k l : Int) : 0 ≤ (closeAmp n ps i j k l).1.1 ∧ (closeAmp n ps i j k l).1.1 ≤ 1000000000000 ∧ 0 ≤ (closeAmp n ps i j k l).1.2 ∧ (closeAmp n ps i j k l).1.2 ≤ 1000000000000 := by
  cases h : (visB n ps && apart4 n i j k l) with
  | false => rw [camp_no h]; simp
  | true =>
    obtain ⟨N, I, J, K, L, rfl, rfl, rfl, rfl, rfl, hv, hI, hJ, hK, hL, e1, e2, e3, e4, e5, e6⟩ := camp_ok (n := n) (ps := ps) (i := i) (j := j) (k := k) (l := l) (by simp [closeAmp, h])
    rw [camp_mk hv (apart4_mk hI hJ hK hL e1 e2 e3 e4 e5 e6)]
    have t := am_top hv hI hJ hK hL e1 e6
    have b := am_top hv hI hK hJ hL e2 e5
    have f := frac_pos t.1 b.1
    simp only []
    omega

/-- a closure amplitude with the inner antennas exchanged -/
theorem camp_swap {n : Int} {ps : List (Int × Int)} {i j k l : Int} (h : (closeAmp n ps i j k l).2 = true) :
    closeAmp n ps i k j l = (((closeAmp n ps i j k l).1.2, (closeAmp n ps i j k l).1.1), true) ∧ 0 < (closeAmp n ps i j k l).1.1 ∧ 0 < (closeAmp n ps i j k l).1.2 := by
  obtain ⟨N, I, J, K, L, rfl, rfl, rfl, rfl, rfl, hv, hI, hJ, hK, hL, e1, e2, e3, e4, e5, e6⟩ := camp_ok h
  rw [camp_mk hv (apart4_mk hI hJ hK hL e1 e2 e3 e4 e5 e6), camp_mk hv (apart4_mk hI hK hJ hL e2 e1 e3.symm e4 e6 e5)]
  have t := am_top hv hI hJ hK hL e1 e6
  have b := am_top hv hI hK hJ hL e2 e5
  have f := frac_pos t.1 b.1
  rw [frac_turn]
  simp only []
  exact ⟨trivial, by omega, by omega⟩
theorem camp_turn {n : Int} {ps : List (Int × Int)} {i j k l : Int} (h : (closeAmp n ps i j k l).2 = true) :
    closeAmp n ps l k j i = closeAmp n ps i j k l ∧ closeAmp n ps j i l k = closeAmp n ps i j k l := by
  obtain ⟨N, I, J, K, L, rfl, rfl, rfl, rfl, rfl, hv, hI, hJ, hK, hL, e1, e2, e3, e4, e5, e6⟩ := camp_ok h
  rw [camp_mk hv (apart4_mk hI hJ hK hL e1 e2 e3 e4 e5 e6), camp_mk hv (apart4_mk hL hK hJ hI e6.symm e5.symm e3.symm e4.symm e2.symm e1.symm), camp_mk hv (apart4_mk hJ hI hL hK e1.symm e5 e4 e3 e2 e6.symm)]
  rw [am_comm ps N L K, am_comm ps N J I, am_comm ps N L J, am_comm ps N K I]
  rw [Int.mul_comm (am ps N K L), Int.mul_comm (am ps N J L)]
  exact ⟨rfl, rfl⟩
theorem camp_three {n : Int} {ps : List (Int × Int)} {i j k l : Int} (h : (closeAmp n ps i j k l).2 = true) :
    (closeAmp n ps i k l j).2 = true ∧ (closeAmp n ps i l j k).2 = true ∧
    (closeAmp n ps i j k l).1.1 * (closeAmp n ps i k l j).1.1 * (closeAmp n ps i l j k).1.1 = (closeAmp n ps i j k l).1.2 * (closeAmp n ps i k l j).1.2 * (closeAmp n ps i l j k).1.2 := by
  obtain ⟨N, I, J, K, L, rfl, rfl, rfl, rfl, rfl, hv, hI, hJ, hK, hL, e1, e2, e3, e4, e5, e6⟩ := camp_ok h
  rw [camp_mk hv (apart4_mk hI hJ hK hL e1 e2 e3 e4 e5 e6), camp_mk hv (apart4_mk hI hK hL hJ e2 e4 e6 e1 e3.symm e5.symm), camp_mk hv (apart4_mk hI hL hJ hK e4 e1 e5.symm e2 e6.symm e3)]
  refine ⟨rfl, rfl, ?_⟩
  simp only []
  have t := am_top hv hI hJ hK hL e1 e6
  have b := am_top hv hI hK hJ hL e2 e5
  have c := am_top hv hI hL hJ hK e4 e3
  rw [am_comm ps N L J, am_comm ps N K J, am_comm ps N L K]
  exact frac_three t.1 b.1 c.1
/-- gains are not seen in closure amplitudes -/
theorem camp_gain {N : Nat} {ls gs : List (Int × Int)} (h : (gainApply (N : Int) ls gs).2 = true) {I J K L : Nat} (ha : apart4 (N : Int) (I : Int) (J : Int) (K : Int) (L : Int) = true) :
    closeAmp (N : Int) (gainApply (N : Int) ls gs).1 (I : Int) (J : Int) (K : Int) (L : Int) = closeAmp (N : Int) ls (I : Int) (J : Int) (K : Int) (L : Int) ∧ (closeAmp (N : Int) ls (I : Int) (J : Int) (K : Int) (L : Int)).2 = true := by
  obtain ⟨h1, h2, h3, e⟩ := apply_ok h
  have hN := vis_N h1
  have am2 : ∀ i j, i < N → j < N → i ≠ j → am (gainApply (N : Int) ls gs).1 N i j = am ls N i j * (g1 gs i * g1 gs j) := fun i j hi hj hne => by
    unfold am
    rw [(apply_at h (gk_nb hN.2 hi hj hne)).1, Int.mul_assoc]
    congr 1
    rcases Nat.lt_or_gt_of_ne hne with hlt | hlt
    · rw [gk_lt hlt]
      obtain ⟨_, x, y⟩ := idx_at hN.2 hlt hj
      rw [x, y]
    · rw [gk_gt hlt]
      obtain ⟨_, x, y⟩ := idx_at hN.2 hlt hi
      rw [x, y, Int.mul_comm]
  obtain ⟨I', J', K', L', q1, q2, q3, q4, hI, hJ, hK, hL, e1, e2, e3, e4, e5, e6⟩ := apart4_nat ha
  obtain rfl : I = I' := by omega
  obtain rfl : J = J' := by omega
  obtain rfl : K = K' := by omega
  obtain rfl : L = L' := by omega
  rw [camp_mk (by rw [e]; exact h3) ha, camp_mk h1 ha, am2 I J hI hJ e1, am2 K L hK hL e6, am2 I K hI hK e2, am2 J L hJ hL e5]
  refine ⟨?_, rfl⟩
  have t := am_top h1 hI hJ hK hL e1 e6
  have x1 := gain_at h2 hI
  have x2 := gain_at h2 hJ
  have x3 := gain_at h2 hK
  have x4 := gain_at h2 hL
  have hG := mul_pos2 (mul_pos2 x1.1 x2.1) (mul_pos2 x3.1 x4.1)
  have r1 : am ls N I J * (g1 gs I * g1 gs J) * (am ls N K L * (g1 gs K * g1 gs L)) = am ls N I J * am ls N K L * (g1 gs I * g1 gs J * (g1 gs K * g1 gs L)) := by simp only [Int.mul_assoc, Int.mul_left_comm]
  have r2 : am ls N I K * (g1 gs I * g1 gs K) * (am ls N J L * (g1 gs J * g1 gs L)) = am ls N I K * am ls N J L * (g1 gs I * g1 gs J * (g1 gs K * g1 gs L)) := by simp only [Int.mul_assoc, Int.mul_left_comm]
  rw [r1, r2, frac_mul _ hG t.1]
open Go.RowKit in
theorem wrap64_mul (x c : Int) : wrap64 (wrap64 x * c) = wrap64 (x * c) := by
  obtain ⟨q, hq⟩ : ∃ q : Int, wrap64 x = x + 18446744073709551616 * q := ⟨-((x + 9223372036854775808) / 18446744073709551616), by unfold wrap64; omega⟩
  rw [hq, Int.add_mul, Int.mul_assoc]
  generalize q * c = r
  generalize x * c = y
  unfold wrap64
  omega
open Go.RowKit in
/-- two products that are equal are so modulo 2 to the 64 -/
theorem three_wrap {a b c d e f : Int} (h : a * b * c = d * e * f) : (wrap64 (wrap64 (a * b) * c) == wrap64 (wrap64 (d * e) * f)) = true := by
  rw [wrap64_mul, wrap64_mul, h]
  simp
theorem four_mod_all : ∀ N : Fin 8, ∀ a : Fin 8, 4 ≤ N.1 → a.1 < N.1 → (a.1 + 1) % N.1 < N.1 ∧ (a.1 + 2) % N.1 < N.1 ∧ (a.1 + 3) % N.1 < N.1 ∧ a.1 ≠ (a.1 + 1) % N.1 ∧ a.1 ≠ (a.1 + 2) % N.1 ∧ (a.1 + 1) % N.1 ≠ (a.1 + 2) % N.1 ∧ a.1 ≠ (a.1 + 3) % N.1 ∧ (a.1 + 1) % N.1 ≠ (a.1 + 3) % N.1 ∧ (a.1 + 2) % N.1 ≠ (a.1 + 3) % N.1 := by decide +kernel
theorem four_mod {N a m1 m2 m3 : Nat} (h4 : 4 ≤ N) (h7 : N ≤ 7) (ha : a < N) (e1 : m1 = (a + 1) % N) (e2 : m2 = (a + 2) % N) (e3 : m3 = (a + 3) % N) : m1 < N ∧ m2 < N ∧ m3 < N ∧ a ≠ m1 ∧ a ≠ m2 ∧ m1 ≠ m2 ∧ a ≠ m3 ∧ m1 ≠ m3 ∧ m2 ≠ m3 := by
  subst e1 e2 e3
  exact four_mod_all ⟨N, by omega⟩ ⟨a, by omega⟩ h4 ha
/-- removed gains can be applied -/
theorem remove_apply {N : Nat} {ls gs : List (Int × Int)} (h : (gainRemove (N : Int) ls gs).2 = true) : gainApply (N : Int) (gainRemove (N : Int) ls gs).1 gs = (ls, true) := by
  obtain ⟨h1, h2, h3, e⟩ := remove_ok h
  have hN := vis_N h1
  rw [e]
  have e2 : upto (fun p => apE (upto (fun p => rmE ls gs N p p) (nb N)) gs N p p) (nb N) = ls := by
    refine Eq.trans (upto_congr fun p hp => ?_) (vis_self h1)
    have hb := bs_lt hN.2 hp
    have v := vis_at h1 hp
    have hd := rmB_iff.1 h3 p hp
    unfold apE
    rw [g1_upto _ hp, g2_upto _ hp]
    simp only [rmE]
    congr 1
    · rw [Int.mul_assoc]
      exact Int.ediv_mul_cancel (Int.dvd_of_emod_eq_zero hd)
    · omega
  rw [apply_mk (remove_vis h1 h2 h3) h2 (by rw [e2]; exact h1), e2]
end Go.Proofs.Ytpdekpeknnlfmaa
