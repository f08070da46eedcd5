/-
  Plain mathematics of visibilities and gains: validity, baselines in order. No program is walked here.
-/
import Derived.Test.YtopneihamefohaaSkyP
import Derived.Test.YtopneihamefohaaApp
namespace Go.Proofs.Ytopneihamefohaa
set_option linter.unusedVariables false

def phB (x : Int) : Bool := inB x 0 359
def visOk (lim x y : Int) : Bool := inB x 1 lim && phB y
def allV (ps : List (Int × Int)) (lim : Int) : Bool := ps.all fun p => visOk lim p.1 p.2
def manyB (n : Int) : Bool := inB n 2 7
def bm (n : Int) : Int := if manyB n then n * (n - 1) / 2 else 0
def visB (n : Int) (ps : List (Int × Int)) : Bool := manyB n && decide ((ps.length : Int) = bm n) && allV ps 1000000
def gainB (n : Int) (ps : List (Int × Int)) : Bool := manyB n && decide ((ps.length : Int) = n) && allV ps 99

def VisTo (ps : List (Int × Int)) (lim : Int) (k : Nat) : Prop := ∀ j, j < k → visOk lim (g1 ps j) (g2 ps j) = true
theorem VisTo.zero (ps : List (Int × Int)) (lim : Int) : VisTo ps lim 0 := fun j hj => absurd hj (by omega)
theorem VisTo.step {ps : List (Int × Int)} {lim : Int} {k : Nat} (h : VisTo ps lim k) (e : visOk lim (g1 ps k) (g2 ps k) = true) : VisTo ps lim (k + 1) := fun j hj => by
  by_cases hjk : j = k
  · rw [hjk]; exact e
  · exact h j (by omega)
theorem gp_get {ps : List (Int × Int)} {j : Nat} (h : j < ps.length) : g1 ps j = ps[j].1 ∧ g2 ps j = ps[j].2 := by simp [g1, g2, h]
theorem VisTo.all {ps : List (Int × Int)} {lim : Int} (h : VisTo ps lim ps.length) : allV ps lim = true := by
  unfold allV
  rw [List.all_eq_true]
  intro p hp
  obtain ⟨j, hj, rfl⟩ := List.mem_iff_getElem.1 hp
  rw [← (gp_get hj).1, ← (gp_get hj).2]
  exact h j hj
theorem allV_at {ps : List (Int × Int)} {lim : Int} (h : allV ps lim = true) {j : Nat} (hj : j < ps.length) : visOk lim (g1 ps j) (g2 ps j) = true := by
  unfold allV at h
  rw [List.all_eq_true] at h
  rw [(gp_get hj).1, (gp_get hj).2]
  exact h _ (List.getElem_mem hj)
theorem allV_not {ps : List (Int × Int)} {lim : Int} {j : Nat} (hj : j < ps.length) (h : visOk lim (g1 ps j) (g2 ps j) = false) : allV ps lim = false := by
  cases hh : allV ps lim with
  | false => rfl
  | true => rw [allV_at hh hj] at h; cases h
theorem visOk_iff {lim x y : Int} : visOk lim x y = true ↔ (1 ≤ x ∧ x ≤ lim) ∧ (0 ≤ y ∧ y ≤ 359) := by
  simp [visOk, phB, inB, and_assoc]
theorem visOk_bd {lim x y : Int} (h : visOk lim x y = true) : 1 ≤ x ∧ x ≤ lim ∧ 0 ≤ y ∧ y < 360 := by
  have := visOk_iff.1 h; omega

theorem many_nat {n : Int} (h : manyB n = true) : ∃ N : Nat, n = (N : Int) ∧ 2 ≤ N ∧ N ≤ 7 := by
  have := inB_true h
  exact ⟨n.toNat, by omega, by omega, by omega⟩
theorem manyB_mk {N : Nat} (h2 : 2 ≤ N) (h7 : N ≤ 7) : manyB (N : Int) = true := inB_mk (by omega)
/-- how many baselines N antennas have -/
def nb (N : Nat) : Nat := N * (N - 1) / 2
theorem bm_nat_all : ∀ N : Fin 8, 2 ≤ N.1 → bm (N.1 : Int) = (nb N.1 : Int) := by decide +kernel
theorem bm_nat {N : Nat} (h2 : 2 ≤ N) (h7 : N ≤ 7) : bm (N : Int) = (nb N : Int) := bm_nat_all ⟨N, by omega⟩ h2
theorem nb_le_all : ∀ N : Fin 8, nb N.1 ≤ 21 := by decide +kernel
theorem nb_le {N : Nat} (h7 : N ≤ 7) : nb N ≤ 21 := nb_le_all ⟨N, by omega⟩
theorem nb_pos_all : ∀ N : Fin 8, 2 ≤ N.1 → 1 ≤ nb N.1 := by decide +kernel
theorem nb_pos {N : Nat} (h2 : 2 ≤ N) (h7 : N ≤ 7) : 1 ≤ nb N := nb_pos_all ⟨N, by omega⟩ h2
theorem bm_no {n : Int} (h : manyB n = false) : bm n = 0 := by simp [bm, h]
theorem bm_yes {n : Int} (h : manyB n = true) : 1 ≤ bm n ∧ bm n ≤ 21 := by
  obtain ⟨N, rfl, h2, h7⟩ := many_nat h
  rw [bm_nat h2 h7]
  have := nb_le h7
  have := nb_pos h2 h7
  omega

/-- all baselines in order -/
def bs (N : Nat) : List (Nat × Nat) := (List.range N).flatMap fun i => (List.range (N - 1 - i)).map fun d => (i, i + 1 + d)
def b1 (N k : Nat) : Nat := ((bs N).getD k (0, 0)).1
def b2 (N k : Nat) : Nat := ((bs N).getD k (0, 0)).2
/-- the number of the baseline i, j, where i < j -/
def idx (N i j : Nat) : Nat := i * (2 * N - i - 1) / 2 + j - i - 1
theorem bs_all : ∀ N : Fin 8, ∀ k : Fin 21, k.1 < nb N.1 → b1 N k < b2 N k ∧ b2 N k < N.1 ∧ idx N (b1 N k) (b2 N k) = k := by decide +kernel
theorem bs_at {N k : Nat} (h7 : N ≤ 7) (hk : k < nb N) : b1 N k < b2 N k ∧ b2 N k < N ∧ idx N (b1 N k) (b2 N k) = k :=
  bs_all ⟨N, by omega⟩ ⟨k, by have := nb_le h7; omega⟩ hk
theorem idx_all : ∀ N : Fin 8, ∀ i : Fin 8, ∀ j : Fin 8, i.1 < j.1 → j.1 < N.1 → idx N i j < nb N.1 ∧ b1 N (idx N i j) = i.1 ∧ b2 N (idx N i j) = j.1 := by decide +kernel
theorem idx_at {N i j : Nat} (h7 : N ≤ 7) (hij : i < j) (hj : j < N) : idx N i j < nb N ∧ b1 N (idx N i j) = i ∧ b2 N (idx N i j) = j :=
  idx_all ⟨N, by omega⟩ ⟨i, by omega⟩ ⟨j, by omega⟩ hij hj
theorem idx_next_all : ∀ N : Fin 8, ∀ i : Fin 8, ∀ j : Fin 8, i.1 < j.1 → j.1 < N.1 → idx N i (j.1 + 1) = idx N i j + 1 := by decide +kernel
theorem idx_next {N i j : Nat} (h7 : N ≤ 7) (hij : i < j) (hj : j < N) : idx N i (j + 1) = idx N i j + 1 :=
  idx_next_all ⟨N, by omega⟩ ⟨i, by omega⟩ ⟨j, by omega⟩ hij hj
theorem idx_row_all : ∀ N : Fin 8, ∀ i : Fin 8, i.1 < N.1 → idx N i N = idx N (i.1 + 1) (i.1 + 2) := by decide +kernel
theorem idx_row {N i : Nat} (h7 : N ≤ 7) (hi : i < N) : idx N i N = idx N (i + 1) (i + 2) := idx_row_all ⟨N, by omega⟩ ⟨i, by omega⟩ hi
theorem idx_zero_all : ∀ N : Fin 8, idx N 0 1 = 0 := by decide +kernel
theorem idx_zero {N : Nat} (h7 : N ≤ 7) : idx N 0 1 = 0 := idx_zero_all ⟨N, by omega⟩
theorem idx_end_all : ∀ N : Fin 8, 2 ≤ N.1 → idx N N (N.1 + 1) = nb N := by decide +kernel
theorem idx_end {N : Nat} (h2 : 2 ≤ N) (h7 : N ≤ 7) : idx N N (N + 1) = nb N := idx_end_all ⟨N, by omega⟩ h2

theorem visB_mk {n : Int} {ps : List (Int × Int)} (hn : manyB n = true) (hl : (ps.length : Int) = bm n) (ha : allV ps 1000000 = true) : visB n ps = true := by simp [visB, hn, hl, ha]
theorem visB_ok {n : Int} {ps : List (Int × Int)} (h : visB n ps = true) : manyB n = true ∧ (ps.length : Int) = bm n ∧ allV ps 1000000 = true := by
  simpa [visB, and_assoc] using h
theorem gainB_mk {n : Int} {ps : List (Int × Int)} (hn : manyB n = true) (hl : (ps.length : Int) = n) (ha : allV ps 99 = true) : gainB n ps = true := by simp [gainB, hn, hl, ha]
theorem gainB_ok {n : Int} {ps : List (Int × Int)} (h : gainB n ps = true) : manyB n = true ∧ (ps.length : Int) = n ∧ allV ps 99 = true := by
  simpa [gainB, and_assoc] using h
theorem visB_len {N : Nat} {ps : List (Int × Int)} (h : visB (N : Int) ps = true) : ps.length = nb N := by
  obtain ⟨hm, hl, _⟩ := visB_ok h
  have := inB_true hm
  rw [bm_nat (by omega) (by omega)] at hl
  omega
theorem gainB_len {N : Nat} {ps : List (Int × Int)} (h : gainB (N : Int) ps = true) : ps.length = N := by
  have := (gainB_ok h).2.1; omega
theorem allV_bd {ps : List (Int × Int)} {lim : Int} (h : allV ps lim = true) {j : Nat} (hj : j < ps.length) : 1 ≤ g1 ps j ∧ g1 ps j ≤ lim ∧ 0 ≤ g2 ps j ∧ g2 ps j < 360 := visOk_bd (allV_at h hj)
theorem allV_upto {f : Nat → Int × Int} {n : Nat} {lim : Int} (h : ∀ k, k < n → visOk lim (f k).1 (f k).2 = true) : allV (upto f n) lim = true :=
  VisTo.all fun j hj => by
    have hj' : j < n := by simpa using hj
    rw [g1_upto f hj', g2_upto f hj']
    exact h j hj'

/- joined gains -/
def jnF (a b : List (Int × Int)) (i : Nat) : Int × Int := (g1 a i * g1 b i, (g2 a i + g2 b i) % 360)
def gainJoin (n : Int) (a b : List (Int × Int)) : List (Int × Int) × Bool :=
  if gainB n a && gainB n b && gainB n (upto (jnF a b) n.toNat) then (upto (jnF a b) n.toNat, true) else ([], false)
theorem gainJoin_len (n : Int) (a b : List (Int × Int)) : (gainJoin n a b).1.length ≤ 1048592 := by
  unfold gainJoin
  split
  · rename_i h
    simp only [Bool.and_eq_true] at h
    have := inB_true (gainB_ok h.1.1).1
    simp; omega
  · simp
theorem join_mk {n : Int} {a b : List (Int × Int)} (ha : gainB n a = true) (hb : gainB n b = true) (hc : gainB n (upto (jnF a b) n.toNat) = true) : gainJoin n a b = (upto (jnF a b) n.toNat, true) := by simp [gainJoin, ha, hb, hc]
theorem join_ok {n : Int} {a b : List (Int × Int)} (h : (gainJoin n a b).2 = true) : gainB n a = true ∧ gainB n b = true ∧ gainB n (upto (jnF a b) n.toNat) = true ∧ (gainJoin n a b).1 = upto (jnF a b) n.toNat := by
  unfold gainJoin at h ⊢
  split at h
  · rename_i hc
    rw [if_pos hc]
    simp only [Bool.and_eq_true] at hc
    exact ⟨hc.1.1, hc.1.2, hc.2, rfl⟩
  · cases h
theorem self_upto {ps : List (Int × Int)} {n : Nat} (h : ps.length = n) : upto (fun i => (g1 ps i, g2 ps i)) n = ps :=
  pairs_inj (by simp [h]) (fun j hj => g1_upto _ (by omega)) (fun j hj => g2_upto _ (by omega))
def onesL (N : Nat) : List (Int × Int) := upto (fun _ => (1, 0)) N
theorem g1_ones {N i : Nat} (h : i < N) : g1 (onesL N) i = 1 := g1_upto _ h
theorem g2_ones {N i : Nat} (h : i < N) : g2 (onesL N) i = 0 := g2_upto _ h
theorem gainB_ones {N : Nat} (h2 : 2 ≤ N) (h7 : N ≤ 7) : gainB (N : Int) (onesL N) = true := gainB_mk (manyB_mk h2 h7) (by simp [onesL]) (allV_upto fun _ _ => by decide)
theorem join_comm {n : Int} {a b : List (Int × Int)} (h : (gainJoin n a b).2 = true) : (gainJoin n b a).2 = true ∧ (gainJoin n b a).1 = (gainJoin n a b).1 := by
  obtain ⟨ha, hb, hc, e⟩ := join_ok h
  have e2 : upto (jnF b a) n.toNat = upto (jnF a b) n.toNat := upto_congr fun j _ => by unfold jnF; rw [Int.mul_comm, Int.add_comm]
  rw [e, join_mk hb ha (by rw [e2]; exact hc)]
  exact ⟨rfl, e2⟩
theorem join_ones {n : Int} {a b : List (Int × Int)} (h : (gainJoin n a b).2 = true) : (gainJoin n a (onesL n.toNat)).2 = true ∧ (gainJoin n a (onesL n.toNat)).1 = a := by
  obtain ⟨ha, _, _, _⟩ := join_ok h
  obtain ⟨hm, hl, hv⟩ := gainB_ok ha
  obtain ⟨N, rfl, h2, h7⟩ := many_nat hm
  have e2 : upto (jnF a (onesL N)) N = a := by
    refine Eq.trans (upto_congr fun j hj => ?_) (self_upto (gainB_len ha))
    have := allV_bd hv (j := j) (by omega)
    unfold jnF
    rw [g1_ones hj, g2_ones hj, Int.mul_one, Int.add_zero, Int.emod_eq_of_lt this.2.2.1 this.2.2.2]
  rw [Int.toNat_natCast, join_mk ha (gainB_ones h2 h7) (by rw [Int.toNat_natCast, e2]; exact ha), Int.toNat_natCast]
  exact ⟨rfl, e2⟩
theorem join_three {n : Int} {a b c : List (Int × Int)} (h : (gainJoin n a b).2 = true) (hp : (gainJoin n (gainJoin n a b).1 c).2 = true) (hq : (gainJoin n b c).2 = true) (hs : (gainJoin n a (gainJoin n b c).1).2 = true) :
    (gainJoin n (gainJoin n a b).1 c).1 = (gainJoin n a (gainJoin n b c).1).1 := by
  rw [(join_ok hp).2.2.2, (join_ok hs).2.2.2, (join_ok h).2.2.2, (join_ok hq).2.2.2]
  refine upto_congr fun j hj => ?_
  unfold jnF
  rw [g1_upto _ hj, g2_upto _ hj, g1_upto _ hj, g2_upto _ hj]
  show (g1 a j * g1 b j * g1 c j, ((g2 a j + g2 b j) % 360 + g2 c j) % 360) = (g1 a j * (g1 b j * g1 c j), (g2 a j + (g2 b j + g2 c j) % 360) % 360)
  rw [Int.mul_assoc]
  congr 1
  omega
end Go.Proofs.Ytopneihamefohaa
