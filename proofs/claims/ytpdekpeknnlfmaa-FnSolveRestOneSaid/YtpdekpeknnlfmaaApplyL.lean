/-
  Plain laws of applied and removed gains. No program is walked here.
-/
import Derived.Test.YtpdekpeknnlfmaaApplyP
namespace Go.Proofs.Ytpdekpeknnlfmaa
set_option linter.unusedVariables false

theorem bs_lt {N p : Nat} (h7 : N ≤ 7) (hp : p < nb N) : b1 N p < N ∧ b2 N p < N := by have := bs_at h7 hp; omega
theorem vis_N {N : Nat} {ls : List (Int × Int)} (h : visB (N : Int) ls = true) : 2 ≤ N ∧ N ≤ 7 := by have := inB_true (visB_ok h).1; omega
theorem vis_at {N p : Nat} {ls : List (Int × Int)} (h : visB (N : Int) ls = true) (hp : p < nb N) : 1 ≤ g1 ls p ∧ g1 ls p ≤ 1000000 ∧ 0 ≤ g2 ls p ∧ g2 ls p < 360 := allV_bd (visB_ok h).2.2 (by rw [visB_len h]; exact hp)
theorem gain_at {N p : Nat} {gs : List (Int × Int)} (h : gainB (N : Int) gs = true) (hp : p < N) : 1 ≤ g1 gs p ∧ g1 gs p ≤ 99 ∧ 0 ≤ g2 gs p ∧ g2 gs p < 360 := allV_bd (gainB_ok h).2.2 (by rw [gainB_len h]; exact hp)
theorem vis_mk {N : Nat} {f : Nat → Int × Int} (h2 : 2 ≤ N) (h7 : N ≤ 7) (h : ∀ p, p < nb N → visOk 1000000 (f p).1 (f p).2 = true) : visB (N : Int) (upto f (nb N)) = true :=
  visB_mk (manyB_mk h2 h7) (by rw [bm_nat h2 h7]; simp) (allV_upto h)
theorem gain_mk {N : Nat} {f : Nat → Int × Int} (h2 : 2 ≤ N) (h7 : N ≤ 7) (h : ∀ p, p < N → visOk 99 (f p).1 (f p).2 = true) : gainB (N : Int) (upto f N) = true :=
  gainB_mk (manyB_mk h2 h7) (by simp) (allV_upto h)
theorem vis_self {N : Nat} {ls : List (Int × Int)} (h : visB (N : Int) ls = true) : upto (fun p => (g1 ls p, g2 ls p)) (nb N) = ls := self_upto (visB_len h)

/-- the gains with a common phase -/
def tnF (gs : List (Int × Int)) (y : Int) (i : Nat) : Int × Int := (g1 gs i, (g2 gs i + y) % 360)
theorem gain_turn {N : Nat} {gs : List (Int × Int)} (h : gainB (N : Int) gs = true) (y : Int) : gainB (N : Int) (upto (tnF gs y) N) = true := by
  have hN := inB_true (gainB_ok h).1
  refine gain_mk (by omega) (by omega) fun p hp => ?_
  have := gain_at h hp
  exact visOk_iff.2 ⟨⟨this.1, this.2.1⟩, by simp only [tnF]; omega⟩
theorem apply_turn {N : Nat} {ls gs : List (Int × Int)} (h : (gainApply (N : Int) ls gs).2 = true) (y : Int) : gainApply (N : Int) ls (upto (tnF gs y) N) = ((gainApply (N : Int) ls gs).1, true) := by
  obtain ⟨h1, h2, h3, e⟩ := apply_ok h
  have hN := vis_N h1
  have e2 : upto (fun p => apE ls (upto (tnF gs y) N) N p p) (nb N) = upto (fun p => apE ls gs N p p) (nb N) := upto_congr fun p hp => by
    have hb := bs_lt hN.2 hp
    unfold apE
    rw [g1_upto _ hb.1, g1_upto _ hb.2, g2_upto _ hb.1, g2_upto _ hb.2]
    simp only [tnF]
    congr 1
    omega
  rw [apply_mk h1 (gain_turn h2 y) (by rw [e2]; exact h3), e, e2]
theorem apply_join {N : Nat} {ls gs os : List (Int × Int)} (h : (gainApply (N : Int) ls gs).2 = true) (hp : (gainApply (N : Int) (gainApply (N : Int) ls gs).1 os).2 = true) (hq : (gainJoin (N : Int) gs os).2 = true) :
    gainApply (N : Int) ls (gainJoin (N : Int) gs os).1 = ((gainApply (N : Int) (gainApply (N : Int) ls gs).1 os).1, true) := by
  obtain ⟨h1, h2, h3, e⟩ := apply_ok h
  rw [e] at hp ⊢
  obtain ⟨k1, k2, k3, k⟩ := apply_ok hp
  obtain ⟨j1, j2, j3, j⟩ := join_ok hq
  rw [Int.toNat_natCast] at j3 j
  rw [j, k]
  have hN := vis_N h1
  have e2 : upto (fun p => apE ls (upto (jnF gs os) N) N p p) (nb N) = upto (fun p => apE (upto (fun p => apE ls gs N p p) (nb N)) os N p p) (nb N) := upto_congr fun p hp => by
    have hb := bs_lt hN.2 hp
    unfold apE
    rw [g1_upto _ hb.1, g1_upto _ hb.2, g2_upto _ hb.1, g2_upto _ hb.2, g1_upto _ hp, g2_upto _ hp]
    simp only [jnF]
    congr 1
    · simp only [Int.mul_assoc, Int.mul_left_comm]
    · omega
  rw [apply_mk h1 j3 (by rw [e2]; exact k3), e2]
theorem mul_pos2 {x y : Int} (hx : 1 ≤ x) (hy : 1 ≤ y) : 1 ≤ x * y := by
  have := Int.mul_le_mul hx hy (by omega) (by omega)
  omega
theorem apply_remove {N : Nat} {ls gs : List (Int × Int)} (h : (gainApply (N : Int) ls gs).2 = true) : gainRemove (N : Int) (gainApply (N : Int) ls gs).1 gs = (ls, true) := by
  obtain ⟨h1, h2, h3, e⟩ := apply_ok h
  have hN := vis_N h1
  rw [e]
  have hr : rmB N (upto (fun p => apE ls gs N p p) (nb N)) gs = true := rmB_iff.2 fun p hp => by
    rw [g1_upto _ hp]
    simp only [apE]
    rw [Int.mul_assoc]
    exact Int.mul_emod_left _ _
  rw [remove_mk h3 h2 hr]
  congr 1
  refine Eq.trans (upto_congr fun p hp => ?_) (vis_self h1)
  have hb := bs_lt hN.2 hp
  have ga := gain_at h2 hb.1
  have gb := gain_at h2 hb.2
  have v := vis_at h1 hp
  have hpos := mul_pos2 ga.1 gb.1
  unfold rmE
  rw [g1_upto _ hp, g2_upto _ hp]
  simp only [apE]
  congr 1
  · rw [Int.mul_assoc]
    exact Int.mul_ediv_cancel _ (by omega)
  · omega
theorem apply_none {N : Nat} {ls : List (Int × Int)} (h1 : visB (N : Int) ls = true) : gainApply (N : Int) ls (onesL N) = (ls, true) ∧ gainRemove (N : Int) ls (onesL N) = (ls, true) := by
  have hN := vis_N h1
  have e2 : upto (fun p => apE ls (onesL N) N p p) (nb N) = ls := by
    refine Eq.trans (upto_congr fun p hp => ?_) (vis_self h1)
    have hb := bs_lt hN.2 hp
    have v := vis_at h1 hp
    unfold apE
    rw [g1_ones hb.1, g1_ones hb.2, g2_ones hb.1, g2_ones hb.2]
    congr 1 <;> omega
  have e3 : upto (fun p => rmE ls (onesL N) N p p) (nb N) = ls := by
    refine Eq.trans (upto_congr fun p hp => ?_) (vis_self h1)
    have hb := bs_lt hN.2 hp
    have v := vis_at h1 hp
    unfold rmE
    rw [g1_ones hb.1, g1_ones hb.2, g2_ones hb.1, g2_ones hb.2]
    congr 1 <;> omega
  have hr : rmB N ls (onesL N) = true := rmB_iff.2 fun p hp => by
    have hb := bs_lt hN.2 hp
    rw [g1_ones hb.1, g1_ones hb.2]
    omega
  exact ⟨by rw [apply_mk h1 (gainB_ones hN.1 hN.2) (by rw [e2]; exact h1), e2], by rw [remove_mk h1 (gainB_ones hN.1 hN.2) hr, e3]⟩
theorem apply_at {N : Nat} {ls gs : List (Int × Int)} (h : (gainApply (N : Int) ls gs).2 = true) {p : Nat} (hp : p < nb N) :
    g1 (gainApply (N : Int) ls gs).1 p = g1 ls p * g1 gs (b1 N p) * g1 gs (b2 N p) ∧ g2 (gainApply (N : Int) ls gs).1 p = (g2 ls p + g2 gs (b2 N p) - g2 gs (b1 N p)) % 360 := by
  rw [(apply_ok h).2.2.2, g1_upto _ hp, g2_upto _ hp]
  exact ⟨rfl, rfl⟩
/-- one gain is set to 1 -/
theorem apply_one {N a : Nat} {ls gs : List (Int × Int)} (h : (gainApply (N : Int) ls gs).2 = true) (ha : a < N) :
    (gainApply (N : Int) ls (gs.set a (1, 0))).2 = true ∧ (∀ p, p < nb N → b1 N p ≠ a → b2 N p ≠ a → g1 (gainApply (N : Int) ls (gs.set a (1, 0))).1 p = g1 (gainApply (N : Int) ls gs).1 p ∧ g2 (gainApply (N : Int) ls (gs.set a (1, 0))).1 p = g2 (gainApply (N : Int) ls gs).1 p) := by
  obtain ⟨h1, h2, h3, e⟩ := apply_ok h
  have hN := vis_N h1
  have hl := gainB_len h2
  have s1 : ∀ i, i < N → g1 (gs.set a (1, 0)) i = if i = a then 1 else g1 gs i := fun i hi => by
    unfold g1
    by_cases hia : i = a
    · subst hia; simp [hl, hi]
    · rw [if_neg hia]; simp [Ne.symm hia]
  have s2 : ∀ i, i < N → g2 (gs.set a (1, 0)) i = if i = a then 0 else g2 gs i := fun i hi => by
    unfold g2
    by_cases hia : i = a
    · subst hia; simp [hl, hi]
    · rw [if_neg hia]; simp [Ne.symm hia]
  have hg : gainB (N : Int) (gs.set a (1, 0)) = true := by
    refine gainB_mk (manyB_mk hN.1 hN.2) (by rw [List.length_set, hl]) (VisTo.all fun j hj => ?_)
    rw [List.length_set, hl] at hj
    have := gain_at h2 hj
    rw [s1 j hj, s2 j hj]
    split
    · decide
    · exact visOk_iff.2 ⟨⟨this.1, this.2.1⟩, by omega⟩
  have hv : visB (N : Int) (upto (fun p => apE ls (gs.set a (1, 0)) N p p) (nb N)) = true := vis_mk hN.1 hN.2 fun p hp => by
    have hb := bs_lt hN.2 hp
    have ga := gain_at h2 hb.1
    have gb := gain_at h2 hb.2
    have v := vis_at h1 hp
    have o := vis_at h3 hp
    rw [g1_upto _ hp] at o
    simp only [apE] at o ⊢
    rw [s1 _ hb.1, s1 _ hb.2]
    have m1 : g1 ls p ≤ g1 ls p * g1 gs (b1 N p) := by have := Int.mul_le_mul_of_nonneg_left ga.1 (show 0 ≤ g1 ls p by omega); omega
    have m2 : g1 ls p * g1 gs (b1 N p) ≤ g1 ls p * g1 gs (b1 N p) * g1 gs (b2 N p) := by have := Int.mul_le_mul_of_nonneg_left gb.1 (show 0 ≤ g1 ls p * g1 gs (b1 N p) by omega); omega
    have m3 : g1 ls p ≤ g1 ls p * g1 gs (b2 N p) := by have := Int.mul_le_mul_of_nonneg_left gb.1 (show 0 ≤ g1 ls p by omega); omega
    have m4 : g1 ls p * g1 gs (b2 N p) ≤ g1 ls p * g1 gs (b2 N p) * g1 gs (b1 N p) := by have := Int.mul_le_mul_of_nonneg_left ga.1 (show 0 ≤ g1 ls p * g1 gs (b2 N p) by omega); omega
    rw [Int.mul_right_comm] at m4
    refine visOk_iff.2 ⟨?_, by omega⟩
    split <;> split <;> (try simp only [Int.mul_one]) <;> omega
  rw [apply_mk h1 hg hv, e]
  refine ⟨rfl, fun p hp n1 n2 => ?_⟩
  have hb := bs_lt hN.2 hp
  simp only []
  rw [g1_upto _ hp, g2_upto _ hp, g1_upto _ hp, g2_upto _ hp]
  simp only [apE]
  rw [s1 _ hb.1, s1 _ hb.2, s2 _ hb.1, s2 _ hb.2, if_neg n1, if_neg n2, if_neg n1, if_neg n2]
  exact ⟨rfl, rfl⟩
theorem remove_vis {N : Nat} {ls gs : List (Int × Int)} (h1 : visB (N : Int) ls = true) (h2 : gainB (N : Int) gs = true) (h3 : rmB N ls gs = true) : visB (N : Int) (upto (fun p => rmE ls gs N p p) (nb N)) = true := by
  have hN := vis_N h1
  refine vis_mk hN.1 hN.2 fun p hp => ?_
  have hb := bs_lt hN.2 hp
  have ga := gain_at h2 hb.1
  have gb := gain_at h2 hb.2
  have v := vis_at h1 hp
  have hpos := mul_pos2 ga.1 gb.1
  have hd := rmB_iff.1 h3 p hp
  simp only [rmE]
  generalize g1 gs (b1 N p) * g1 gs (b2 N p) = D at *
  have e := Int.mul_ediv_add_emod (g1 ls p) D
  have q1 : g1 ls p / D ≤ g1 ls p := Int.ediv_le_self _ (by omega)
  have q0 : 0 ≤ g1 ls p / D := Int.ediv_nonneg (by omega) (by omega)
  have q2 : g1 ls p / D ≠ 0 := fun h0 => by rw [h0, hd, Int.mul_zero] at e; omega
  exact visOk_iff.2 ⟨by omega, by omega⟩
/-- gains of amplitude 1 are removed in any order -/
theorem remove_twice {N : Nat} {ls gs os : List (Int × Int)} (h : (gainRemove (N : Int) ls gs).2 = true) (hg : gainB (N : Int) os = true) (ho : ∀ i, i < N → g1 os i = 1) :
    (gainRemove (N : Int) (gainRemove (N : Int) ls gs).1 os).2 = true ∧ (gainRemove (N : Int) ls os).2 = true ∧ (gainRemove (N : Int) (gainRemove (N : Int) ls os).1 gs).2 = true ∧
    (gainRemove (N : Int) (gainRemove (N : Int) ls gs).1 os).1 = (gainRemove (N : Int) (gainRemove (N : Int) ls os).1 gs).1 := by
  obtain ⟨h1, h2, h3, e⟩ := remove_ok h
  have hN := vis_N h1
  have one : ∀ L : List (Int × Int), rmB N L os = true := fun L => rmB_iff.2 fun p hp => by
    have hb := bs_lt hN.2 hp
    rw [ho _ hb.1, ho _ hb.2]
    omega
  have v1 := remove_vis h1 h2 h3
  have v2 := remove_vis h1 hg (one ls)
  have a1 : ∀ p, p < nb N → g1 (upto (fun p => rmE ls os N p p) (nb N)) p = g1 ls p := fun p hp => by
    have hb := bs_lt hN.2 hp
    rw [g1_upto _ hp]
    simp only [rmE]
    rw [ho _ hb.1, ho _ hb.2]
    omega
  have r2 : rmB N (upto (fun p => rmE ls os N p p) (nb N)) gs = true := rmB_iff.2 fun p hp => by rw [a1 p hp]; exact rmB_iff.1 h3 p hp
  rw [e, remove_mk v1 hg (one _), remove_mk h1 hg (one _), remove_mk v2 h2 r2]
  refine ⟨rfl, rfl, rfl, upto_congr fun p hp => ?_⟩
  have hb := bs_lt hN.2 hp
  unfold rmE
  rw [g1_upto _ hp, g2_upto _ hp, g1_upto _ hp, g2_upto _ hp, ho _ hb.1, ho _ hb.2]
  show (_ / (1 * 1), _) = (_, _)
  rw [show (1 : Int) * 1 = 1 from rfl, Int.ediv_one]
  simp only [Int.ediv_one]
  congr 1
  omega
theorem pairs_one (ps : List (Int × Int)) : ∀ u ∈ pairs ps, u.oneCell' = true := by
  intro u hu
  simp only [pairs, List.mem_flatMap] at hu
  obtain ⟨p, _, hp⟩ := hu
  simp at hp
  rcases hp with rfl | rfl <;> rfl
/-- gains of amplitude 1 -/
def OnesPh (N : Nat) (O : List (Int × Int)) : Prop := O.length = N ∧ (∀ i, i < N → g1 O i = 1) ∧ ∀ i, i < N → 0 ≤ g2 O i ∧ g2 O i < 360
theorem OnesPh.ones (N : Nat) : OnesPh N (onesL N) := ⟨by simp [onesL], fun i hi => g1_ones hi, fun i hi => by rw [g2_ones hi]; omega⟩
theorem OnesPh.set {N : Nat} {O : List (Int × Int)} (h : OnesPh N O) (k : Nat) (y : Int) (hk : k < N) (y0 : 0 ≤ y) (y1 : y < 360) : OnesPh N (O.set k (g1 O k, y)) := by
  have hl : k < O.length := by rw [h.1]; exact hk
  refine ⟨by rw [List.length_set]; exact h.1, fun i hi => ?_, fun i hi => ?_⟩
  · rw [g1_set _ _ _ _ hl]
    split
    · exact h.2.1 k hk
    · exact h.2.1 i hi
  · rw [g2_set _ _ _ _ hl]
    split
    · exact ⟨y0, y1⟩
    · exact h.2.2 i hi
theorem OnesPh.gain {N : Nat} {O : List (Int × Int)} (h : OnesPh N O) (n2 : 2 ≤ N) (n7 : N ≤ 7) : gainB (N : Int) O = true :=
  gainB_mk (manyB_mk n2 n7) (by rw [h.1]) (VisTo.all fun j hj => by
    rw [h.1] at hj
    rw [h.2.1 j hj]
    exact visOk_iff.2 ⟨by omega, by have := h.2.2 j hj; omega⟩)
end Go.Proofs.Ytpdekpeknnlfmaa
