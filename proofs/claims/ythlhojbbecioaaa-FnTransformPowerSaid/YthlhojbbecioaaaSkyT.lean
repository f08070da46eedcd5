/-
  Plain mathematics of the transform of a sky: powers of i, sums over all cells, the laws of conjugates and of powers. No program is walked here.
-/
import Derived.Test.YthlhojbbecioaaaSkyQ
import Derived.Test.YthlhojbbecioaaaApp
namespace Go.Proofs.Ythlhojbbecioaaa
set_option linter.unusedVariables false

/-- the parts of i to the power of k -/
def ure (k : Nat) : Int := if k % 4 = 0 then 1 else if k % 4 = 2 then -1 else 0
def uim (k : Nat) : Int := if k % 4 = 1 then 1 else if k % 4 = 3 then -1 else 0
/-- the exponent of the cell k in the sum of the cell t -/
def ex (t k : Nat) : Nat := t % 4 * (k % 4) + t / 4 * (k / 4)
/-- the first n terms of the sum of the cell t -/
def tre (s : List Int) (t n : Nat) : Int := sm (fun k => gi s k * ure (ex t k)) n
def tim (s : List Int) (t n : Nat) : Int := sm (fun k => gi s k * uim (ex t k)) n
/-- the transform -/
def trn (s : List Int) : List (Int × Int) := (List.range 16).map fun t => (tre s t 16, tim s t 16)
@[simp] theorem trn_length (s : List Int) : (trn s).length = 16 := by simp [trn]
theorem g1_trn (s : List Int) {t : Nat} (h : t < 16) : g1 (trn s) t = tre s t 16 := g1_rng _ _ _ h
theorem g2_trn (s : List Int) {t : Nat} (h : t < 16) : g2 (trn s) t = tim s t 16 := g2_rng _ _ _ h
def skyTrn (s : List Int) : List (Int × Int) × Bool := if skyB s then (trn s, true) else ([], false)
theorem skyTrn_len (s : List Int) : (skyTrn s).1.length ≤ 1048592 := by unfold skyTrn; split <;> simp
theorem trn_mk {s : List Int} (h : skyB s = true) : skyTrn s = (trn s, true) := by simp [skyTrn, h]
theorem trn_no {s : List Int} (h : skyB s = false) : skyTrn s = ([], false) := by simp [skyTrn, h]
theorem trn_ok {s : List Int} (h : (skyTrn s).2 = true) : skyB s = true ∧ (skyTrn s).1 = trn s := by
  unfold skyTrn at h ⊢
  split at h
  · rename_i hc; rw [if_pos hc]; exact ⟨hc, rfl⟩
  · cases h

theorem ure_bd (k : Nat) : -1 ≤ ure k ∧ ure k ≤ 1 := by unfold ure; split <;> (try split) <;> omega
theorem uim_bd (k : Nat) : -1 ≤ uim k ∧ uim k ≤ 1 := by unfold uim; split <;> (try split) <;> omega
theorem tre_bd {s : List Int} (h : skyB s = true) (t : Nat) {n : Nat} (hn : n ≤ 16) : -1600000 ≤ tre s t n ∧ tre s t n ≤ 1600000 := by
  have := sm_bd (f := fun k => gi s k * ure (ex t k)) (B := 100000) (n := n) (fun j _ => mul_bd (B := 100000) (C := 1) (skyB_bd h j) (ure_bd _))
  unfold tre; omega
theorem tim_bd {s : List Int} (h : skyB s = true) (t : Nat) {n : Nat} (hn : n ≤ 16) : -1600000 ≤ tim s t n ∧ tim s t n ≤ 1600000 := by
  have := sm_bd (f := fun k => gi s k * uim (ex t k)) (B := 100000) (n := n) (fun j _ => mul_bd (B := 100000) (C := 1) (skyB_bd h j) (uim_bd _))
  unfold tim; omega

/- conjugates -/
theorem ure_opp_all : ∀ t : Fin 16, ∀ k : Fin 16, ure (ex (opp t) k) = ure (ex t k) ∧ uim (ex (opp t) k) = -uim (ex t k) ∧ ure (ex t (opp k)) = ure (ex t k) ∧ uim (ex t (opp k)) = -uim (ex t k) := by decide +kernel
theorem sm_neg (f : Nat → Int) (n : Nat) : sm (fun i => -f i) n = -sm f n := by
  induction n with
  | zero => rfl
  | succ n ih => simp only [sm, ih]; omega
theorem tre_opp (s : List Int) {t : Nat} (ht : t < 16) : tre s (opp t) 16 = tre s t 16 :=
  sm_congr fun k hk => by rw [(ure_opp_all ⟨t, ht⟩ ⟨k, hk⟩).1]
theorem tim_opp (s : List Int) {t : Nat} (ht : t < 16) : tim s (opp t) 16 = -tim s t 16 := by
  unfold tim
  rw [← sm_neg]
  exact sm_congr fun k hk => by rw [(ure_opp_all ⟨t, ht⟩ ⟨k, hk⟩).2.1, Int.mul_neg]

theorem cel_opp_all : ∀ k : Fin 16, cel (-((k.1 : Int) % 4)) (-((k.1 : Int) / 4)) = opp k := by decide +kernel
theorem cel_opp (k : Nat) (h : k < 16) : cel (-((k : Int) % 4)) (-((k : Int) / 4)) = opp k := cel_opp_all ⟨k, h⟩
/- sums -/
theorem tre_addT {a b : List Int} (c : Int) (ha : a.length = 16) (t : Nat) : tre (addT a b c) t 16 = tre a t 16 + c * tre b t 16 := by
  unfold tre
  rw [← sm_mul, ← sm_add]
  exact sm_congr fun k hk => by rw [gi_addT _ _ _ _ (by omega), Int.add_mul, Int.mul_assoc]
theorem tim_addT {a b : List Int} (c : Int) (ha : a.length = 16) (t : Nat) : tim (addT a b c) t 16 = tim a t 16 + c * tim b t 16 := by
  unfold tim
  rw [← sm_mul, ← sm_add]
  exact sm_congr fun k hk => by rw [gi_addT _ _ _ _ (by omega), Int.add_mul, Int.mul_assoc]

/- a symmetric sky -/
def symL (s : List Int) : List Int := (List.range 16).map fun k => gi s k + gi s (opp k)
@[simp] theorem symL_length (s : List Int) : (symL s).length = 16 := by simp [symL]
theorem gi_sym (s : List Int) {k : Nat} (h : k < 16) : gi (symL s) k = gi s k + gi s (opp k) := gi_range _ _ _ h
theorem sm_opp (g : Nat → Int) : sm (fun k => g (opp k)) 16 = sm g 16 := by
  simp only [sm, opp, Nat.reduceDiv, Nat.reduceMod, Nat.reduceAdd, Nat.reduceMul, Nat.reduceSub]; omega
theorem tre_sym (s : List Int) {t : Nat} (ht : t < 16) : tre (symL s) t 16 = 2 * tre s t 16 := by
  have h1 : sm (fun k => gi s (opp k) * ure (ex t k)) 16 = tre s t 16 := by
    unfold tre
    rw [← sm_opp (fun k => gi s k * ure (ex t k))]
    exact sm_congr fun k hk => by rw [(ure_opp_all ⟨t, ht⟩ ⟨k, hk⟩).2.2.1]
  have h2 : tre (symL s) t 16 = tre s t 16 + sm (fun k => gi s (opp k) * ure (ex t k)) 16 := by
    unfold tre
    rw [← sm_add]
    exact sm_congr fun k hk => by rw [gi_sym s hk, Int.add_mul]
  omega
theorem tim_sym (s : List Int) {t : Nat} (ht : t < 16) : tim (symL s) t 16 = 0 := by
  have h1 : sm (fun k => gi s (opp k) * uim (ex t k)) 16 = -tim s t 16 := by
    unfold tim
    rw [← sm_opp (fun k => gi s k * uim (ex t k)), ← sm_neg]
    exact sm_congr fun k hk => by rw [(ure_opp_all ⟨t, ht⟩ ⟨k, hk⟩).2.2.2, Int.mul_neg, Int.neg_neg]
  have h2 : tim (symL s) t 16 = tim s t 16 + sm (fun k => gi s (opp k) * uim (ex t k)) 16 := by
    unfold tim
    rw [← sm_add]
    exact sm_congr fun k hk => by rw [gi_sym s hk, Int.add_mul]
  omega

/- a single number -/
theorem tre_spot {k : Nat} (n : Int) (hk : k < 16) (t : Nat) : tre (spotL k n) t 16 = n * ure (ex t k) := by
  unfold tre
  rw [sm_congr (g := fun j => if j = k then n * ure (ex t k) else 0) (fun j hj => by
    rw [gi_spot _ _ _ hk]
    by_cases e : j = k
    · rw [if_pos e, if_pos e, e]
    · rw [if_neg e, if_neg e, Int.zero_mul]), sm_single _ _ _ hk]
theorem tim_spot {k : Nat} (n : Int) (hk : k < 16) (t : Nat) : tim (spotL k n) t 16 = n * uim (ex t k) := by
  unfold tim
  rw [sm_congr (g := fun j => if j = k then n * uim (ex t k) else 0) (fun j hj => by
    rw [gi_spot _ _ _ hk]
    by_cases e : j = k
    · rw [if_pos e, if_pos e, e]
    · rw [if_neg e, if_neg e, Int.zero_mul]), sm_single _ _ _ hk]
theorem unit_norm (k : Nat) : ure k * ure k + uim k * uim k = 1 := by
  unfold ure uim
  rcases (show k % 4 = 0 ∨ k % 4 = 1 ∨ k % 4 = 2 ∨ k % 4 = 3 by omega) with e | e | e | e <;> rw [e] <;> decide
theorem spot_norm {k : Nat} (n : Int) (hk : k < 16) (t : Nat) : tre (spotL k n) t 16 * tre (spotL k n) t 16 + tim (spotL k n) t 16 * tim (spotL k n) t 16 = n * n := by
  rw [tre_spot n hk, tim_spot n hk]
  have := unit_norm (ex t k)
  have e : ∀ a : Int, n * a * (n * a) = n * n * (a * a) := fun a => by rw [Int.mul_assoc, Int.mul_left_comm a n a, ← Int.mul_assoc]
  rw [e, e, ← Int.mul_add, this, Int.mul_one]

/- powers -/
theorem orth_all : ∀ k : Fin 16, ∀ l : Fin 16, sm (fun t => ure (ex t k) * ure (ex t l) + uim (ex t k) * uim (ex t l)) 16 = if l = k then 16 else 0 := by decide +kernel
theorem orth {k l : Nat} (hk : k < 16) (hl : l < 16) : sm (fun t => ure (ex t k) * ure (ex t l) + uim (ex t k) * uim (ex t l)) 16 = if l = k then 16 else 0 := by
  have := orth_all ⟨k, hk⟩ ⟨l, hl⟩
  rw [this]
  by_cases e : l = k
  · subst e; simp
  · rw [if_neg e, if_neg (fun h => e (by simpa using h))]
theorem sq_sm (f : Nat → Int) (n : Nat) : sm f n * sm f n = sm (fun k => sm (fun l => f k * f l) n) n := by
  rw [← sm_mul']
  exact sm_congr fun k _ => (sm_mul (f k) f n).symm
theorem power_at (s : List Int) (t : Nat) : tre s t 16 * tre s t 16 + tim s t 16 * tim s t 16 = sm (fun k => sm (fun l => gi s k * gi s l * (ure (ex t k) * ure (ex t l) + uim (ex t k) * uim (ex t l))) 16) 16 := by
  unfold tre tim
  rw [sq_sm, sq_sm, ← sm_add]
  refine sm_congr fun k _ => ?_
  rw [← sm_add]
  refine sm_congr fun l _ => ?_
  have e : ∀ a b c d : Int, a * b * (c * d) = a * c * (b * d) := fun a b c d => by rw [Int.mul_assoc, Int.mul_assoc, Int.mul_left_comm b c d]
  rw [e (gi s k) (ure (ex t k)), e (gi s k) (uim (ex t k)), ← Int.mul_add]
/-- the powers are the same -/
theorem power (s : List Int) : sm (fun t => tre s t 16 * tre s t 16 + tim s t 16 * tim s t 16) 16 = sm (fun k => gi s k * gi s k) 16 * 16 := by
  rw [sm_congr (fun t _ => power_at s t), sm_comm]
  rw [← sm_mul']
  refine sm_congr fun k hk => ?_
  rw [sm_comm]
  rw [sm_congr (g := fun l => if l = k then gi s k * gi s k * 16 else 0) (fun l hl => by
    rw [sm_mul, orth hk hl]
    by_cases e : l = k
    · rw [if_pos e, if_pos e, e]
    · rw [if_neg e, if_neg e, Int.mul_zero]), sm_single _ _ _ hk]
theorem power_bd {s : List Int} (h : skyB s = true) (t : Nat) : 0 ≤ tre s t 16 * tre s t 16 + tim s t 16 * tim s t 16 ∧ tre s t 16 * tre s t 16 + tim s t 16 * tim s t 16 ≤ 10000000000000 := by
  have h1 := tre_bd h t (Nat.le_refl 16)
  have h2 := tim_bd h t (Nat.le_refl 16)
  have b1 := mul_bd h1 h1
  have b2 := mul_bd h2 h2
  have n1 : 0 ≤ tre s t 16 * tre s t 16 := by
    rcases Int.le_total 0 (tre s t 16) with a | a
    · exact Int.mul_nonneg a a
    · exact Int.mul_nonneg_of_nonpos_of_nonpos a a
  have n2 : 0 ≤ tim s t 16 * tim s t 16 := by
    rcases Int.le_total 0 (tim s t 16) with a | a
    · exact Int.mul_nonneg a a
    · exact Int.mul_nonneg_of_nonpos_of_nonpos a a
  omega
end Go.Proofs.Ythlhojbbecioaaa
