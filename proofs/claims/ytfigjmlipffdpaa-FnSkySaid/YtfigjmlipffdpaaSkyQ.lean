/-
  Plain laws of skies: shifts, sums, folds. No program is walked here.
-/
import Derived.Test.YtfigjmlipffdpaaSkyP
namespace Go.Proofs.Ytfigjmlipffdpaa
set_option linter.unusedVariables false

theorem shift_mk {s : List Int} {a b : Int} (hs : skyB s = true) (ha : sideB a = true) (hb : sideB b = true) : skyShift s a b = (shf s (pl a b), true) := by simp [skyShift, hs, ha, hb]
theorem shift_ok {s : List Int} {a b : Int} (h : (skyShift s a b).2 = true) : skyB s = true ∧ sideB a = true ∧ sideB b = true ∧ (skyShift s a b).1 = shf s (pl a b) := by
  unfold skyShift at h ⊢
  split at h
  · rename_i hc
    rw [if_pos hc]
    simp only [Bool.and_eq_true] at hc
    exact ⟨hc.1.1, hc.1.2, hc.2, rfl⟩
  · cases h
theorem add_mk {a b : List Int} {t : Int} (ha : skyB a = true) (hb : skyB b = true) (ht : inB t (-100000) 100000 = true) (hs : skyB (addT a b t) = true) : skyAdd a b t = (addT a b t, true) := by simp [skyAdd, ha, hb, ht, hs]
theorem add_ok {a b : List Int} {t : Int} (h : (skyAdd a b t).2 = true) : skyB a = true ∧ skyB b = true ∧ inB t (-100000) 100000 = true ∧ skyB (addT a b t) = true ∧ (skyAdd a b t).1 = addT a b t := by
  unfold skyAdd at h ⊢
  split at h
  · rename_i hc
    rw [if_pos hc]
    simp only [Bool.and_eq_true] at hc
    exact ⟨hc.1.1.1, hc.1.1.2, hc.1.2, hc.2, rfl⟩
  · cases h
theorem fold_mk {a b : List Int} (ha : skyB a = true) (hb : skyB b = true) (hs : skyB (fol a b) = true) : skyFold a b = (fol a b, true) := by simp [skyFold, ha, hb, hs]
theorem fold_ok {a b : List Int} (h : (skyFold a b).2 = true) : skyB a = true ∧ skyB b = true ∧ skyB (fol a b) = true ∧ (skyFold a b).1 = fol a b := by
  unfold skyFold at h ⊢
  split at h
  · rename_i hc
    rw [if_pos hc]
    simp only [Bool.and_eq_true] at hc
    exact ⟨hc.1.1, hc.1.2, hc.2, rfl⟩
  · cases h
theorem sum_mk {s : List Int} (hs : skyB s = true) : skySum s = (sm (gi s) 16, true) := by simp [skySum, hs]
theorem sum_ok {s : List Int} (h : (skySum s).2 = true) : skyB s = true ∧ (skySum s).1 = sm (gi s) 16 := by
  unfold skySum at h ⊢
  split at h
  · rename_i hc
    rw [if_pos hc]
    exact ⟨hc, rfl⟩
  · cases h

theorem skyB_shf {s : List Int} (h : skyB s = true) (k : Nat) : skyB (shf s k) = true := skyB_of (by simp) (fun j hj => by rw [gi_shf _ _ _ hj]; exact skyB_bd h _)
theorem opp_plus_all : ∀ p : Fin 16, ∀ q : Fin 16, opp (plus p q) = plus (opp q) (opp p) := by decide +kernel
theorem opp_plus {p q : Nat} (hp : p < 16) (hq : q < 16) : opp (plus p q) = plus (opp q) (opp p) := opp_plus_all ⟨p, hp⟩ ⟨q, hq⟩
theorem shf_shf (s : List Int) {p q : Nat} (hp : p < 16) (hq : q < 16) : shf (shf s p) q = shf s (plus p q) := by
  apply ext_gi' (by simp)
  intro i hi
  have hi' : i < 16 := by simpa using hi
  rw [gi_shf _ _ _ hi', gi_shf _ _ _ (plus_lt _ _), gi_shf _ _ _ hi', plus_assoc, opp_plus hp hq]
theorem plus_zero {i : Nat} (h : i < 16) : plus i 0 = i := by unfold plus; omega
theorem shf_zero {s : List Int} (h : s.length = 16) : shf s 0 = s := by
  apply ext_gi' (by simp [h])
  intro i hi
  have hi' : i < 16 := by omega
  rw [gi_shf _ _ _ hi']
  rw [show opp 0 = 0 by decide, plus_zero hi']
theorem pl_plus {a b c d : Int} (ha : sideB a = true) (hb : sideB b = true) (hc : sideB c = true) (hd : sideB d = true) : pl ((a + c) % 4) ((b + d) % 4) = plus (pl a b) (pl c d) := by
  have h1 := inB_true ha; have h2 := inB_true hb; have h3 := inB_true hc; have h4 := inB_true hd
  have e1 : a = 0 ∨ a = 1 ∨ a = 2 ∨ a = 3 := by omega
  have e2 : b = 0 ∨ b = 1 ∨ b = 2 ∨ b = 3 := by omega
  have e3 : c = 0 ∨ c = 1 ∨ c = 2 ∨ c = 3 := by omega
  have e4 : d = 0 ∨ d = 1 ∨ d = 2 ∨ d = 3 := by omega
  rcases e1 with rfl | rfl | rfl | rfl <;> rcases e2 with rfl | rfl | rfl | rfl <;> rcases e3 with rfl | rfl | rfl | rfl <;> rcases e4 with rfl | rfl | rfl | rfl <;> rfl
theorem side_mod4 (a : Int) : sideB (a % 4) = true := inB_mk (by omega)
theorem side_of {a : Int} (h0 : 0 ≤ a) (h1 : a < 4) : sideB a = true := inB_mk (by omega)

theorem shift_twice {s : List Int} {a b c d : Int} (h : (skyShift s a b).2 = true) (c0 : 0 ≤ c) (c1 : c < 4) (d0 : 0 ≤ d) (d1 : d < 4) :
    (skyShift (skyShift s a b).1 c d).2 = true ∧ (skyShift s ((a + c) % 4) ((b + d) % 4)).2 = true ∧ (skyShift (skyShift s a b).1 c d).1 = (skyShift s ((a + c) % 4) ((b + d) % 4)).1 := by
  obtain ⟨hs, ha, hb, e⟩ := shift_ok h
  rw [e, shift_mk (skyB_shf hs _) (side_of c0 c1) (side_of d0 d1), shift_mk hs (side_mod4 _) (side_mod4 _)]
  refine ⟨rfl, rfl, ?_⟩
  show shf (shf s (pl a b)) (pl c d) = shf s (pl ((a + c) % 4) ((b + d) % 4))
  rw [shf_shf s (pl_lt ha hb) (pl_lt (side_of c0 c1) (side_of d0 d1)), pl_plus ha hb (side_of c0 c1) (side_of d0 d1)]

theorem sm_plus (f : Nat → Int) (k : Nat) (hk : k < 16) : sm (fun i => f (plus i k)) 16 = sm f 16 := by
  have : k = 0 ∨ k = 1 ∨ k = 2 ∨ k = 3 ∨ k = 4 ∨ k = 5 ∨ k = 6 ∨ k = 7 ∨ k = 8 ∨ k = 9 ∨ k = 10 ∨ k = 11 ∨ k = 12 ∨ k = 13 ∨ k = 14 ∨ k = 15 := by omega
  rcases this with rfl | rfl | rfl | rfl | rfl | rfl | rfl | rfl | rfl | rfl | rfl | rfl | rfl | rfl | rfl | rfl <;> (simp only [sm, plus, Nat.reduceDiv, Nat.reduceMod, Nat.reduceAdd, Nat.reduceMul] <;> omega)
theorem sm_shf (s : List Int) (k : Nat) : sm (gi (shf s k)) 16 = sm (gi s) 16 := by
  rw [sm_congr (g := fun i => gi s (plus i (opp k))) (fun j hj => gi_shf _ _ _ hj), sm_plus (gi s) (opp k) (opp_lt k)]

theorem shift_back {s : List Int} {a b : Int} (h : (skyShift s a b).2 = true) :
    (skyShift (skyShift s a b).1 (-a % 4) (-b % 4)).2 = true ∧ (skyShift (skyShift s a b).1 (-a % 4) (-b % 4)).1 = s ∧ (skySum s).2 = true ∧ (skySum (skyShift s a b).1).2 = true ∧ (skySum (skyShift s a b).1).1 = (skySum s).1 := by
  obtain ⟨hs, ha, hb, e⟩ := shift_ok h
  rw [e, shift_mk (skyB_shf hs _) (side_mod4 _) (side_mod4 _), sum_mk hs, sum_mk (skyB_shf hs _)]
  refine ⟨rfl, ?_, rfl, rfl, sm_shf s _⟩
  show shf (shf s (pl a b)) (pl (-a % 4) (-b % 4)) = s
  rw [shf_shf s (pl_lt ha hb) (pl_lt (side_mod4 _) (side_mod4 _)), ← pl_plus ha hb (side_mod4 _) (side_mod4 _)]
  have e0 : pl ((a + -a % 4) % 4) ((b + -b % 4) % 4) = 0 := by
    have e1 : (a + -a % 4) % 4 = 0 := by omega
    have e2 : (b + -b % 4) % 4 = 0 := by omega
    rw [e1, e2]
    rfl
  rw [e0, shf_zero (skyB_len hs)]

theorem gi_out {s : List Int} {i : Nat} (h : s.length ≤ i) : gi s i = 0 := by simp [gi, h]
theorem sm_addT {a b : List Int} (t : Int) (ha : a.length = 16) : sm (gi (addT a b t)) 16 = sm (gi a) 16 + t * sm (gi b) 16 := by
  rw [sm_congr (g := fun i => gi a i + t * gi b i) (fun j hj => gi_addT _ _ _ _ (by omega)), sm_add, sm_mul]

theorem add_back {a b : List Int} {t : Int} (h : (skyAdd a b t).2 = true) :
    (skyAdd (skyAdd a b t).1 b (-t)).2 = true ∧ (skyAdd (skyAdd a b t).1 b (-t)).1 = a ∧ (skySum a).2 = true ∧ (skySum b).2 = true ∧ (skySum (skyAdd a b t).1).2 = true ∧ (skySum (skyAdd a b t).1).1 = (skySum a).1 + t * (skySum b).1 ∧
    (-1000000000000 ≤ t * (skySum b).1 ∧ t * (skySum b).1 ≤ 1000000000000) ∧ (-1000000000000 ≤ (skySum a).1 ∧ (skySum a).1 ≤ 1000000000000) := by
  obtain ⟨ha, hb, ht, hs, e⟩ := add_ok h
  have ht' := inB_true ht
  have hat : addT (addT a b t) b (-t) = a := by
    apply ext_gi' (by simp)
    intro i hi
    have hla := skyB_len ha
    rw [gi_addT _ _ _ _ (by simpa using hi), gi_addT _ _ _ _ hi, Int.neg_mul]
    omega
  rw [e, add_mk hs hb (inB_mk (by omega)) (by rw [hat]; exact ha), sum_mk ha, sum_mk hb, sum_mk hs]
  have b1 := sm_bd (f := gi b) (B := 100000) (n := 16) (fun j _ => skyB_bd hb j)
  have b2 := sm_bd (f := gi a) (B := 100000) (n := 16) (fun j _ => skyB_bd ha j)
  have b3 := mul_bd (x := t) (y := sm (gi b) 16) (B := 100000) (C := 1600000) ht' (by omega)
  exact ⟨rfl, hat, rfl, rfl, rfl, sm_addT t (skyB_len ha), ⟨by show _ ≤ t * sm (gi b) 16; omega, by show t * sm (gi b) 16 ≤ _; omega⟩, ⟨by show _ ≤ sm (gi a) 16; omega, by show sm (gi a) 16 ≤ _; omega⟩⟩

/-- a sky with one number -/
def spotL (k : Nat) (n : Int) : List Int := (List.replicate 16 0).set k n
@[simp] theorem spotL_length (k : Nat) (n : Int) : (spotL k n).length = 16 := by simp [spotL]
theorem gi_spot (k : Nat) (n : Int) (i : Nat) (hk : k < 16) : gi (spotL k n) i = if i = k then n else 0 := by
  unfold spotL
  rw [gi_set' _ _ _ _ (by simpa using hk), gi_replicate]
  by_cases e : k = i
  · rw [if_pos e, if_pos e.symm]
  · rw [if_neg e, if_neg (fun h => e h.symm)]
theorem skyB_spot {k : Nat} {n : Int} (hk : k < 16) (h : -100000 ≤ n ∧ n ≤ 100000) : skyB (spotL k n) = true :=
  skyB_of (by simp) (fun j _ => by rw [gi_spot _ _ _ hk]; split <;> omega)
theorem sm_spot (k : Nat) (n : Int) (hk : k < 16) : sm (gi (spotL k n)) 16 = n := by
  rw [sm_congr (g := fun i => if i = k then n else 0) (fun j _ => gi_spot _ _ _ hk), sm_single _ _ _ hk]
theorem sum_spot {s : List Int} {k : Nat} (h : (skySum s).2 = true) (hk : k < 16) (hp : (skyAdd s (spotL k 1) 1).2 = true) :
    (skySum (skyAdd s (spotL k 1) 1).1).2 = true ∧ (skySum (skyAdd s (spotL k 1) 1).1).1 = (skySum s).1 + 1 ∧ (-1600000 ≤ (skySum s).1 ∧ (skySum s).1 ≤ 1600000) := by
  obtain ⟨hs, es⟩ := sum_ok h
  obtain ⟨_, hb, _, hv, e⟩ := add_ok hp
  have b2 := sm_bd (f := gi s) (B := 100000) (n := 16) (fun j _ => skyB_bd hs j)
  rw [e, sum_mk hv, sum_mk hs]
  refine ⟨rfl, ?_, by show _ ≤ sm (gi s) 16; omega, by show sm (gi s) 16 ≤ _; omega⟩
  show sm (gi (addT s (spotL k 1) 1)) 16 = sm (gi s) 16 + 1
  rw [sm_addT 1 (skyB_len hs), sm_spot k 1 hk]
  omega

/- folds -/
theorem sm_rev (f : Nat → Int) (i : Nat) (hi : i < 16) : sm (fun k => f (plus i (opp k))) 16 = sm f 16 := by
  rw [← sm_plus f i hi]
  have hr : ∀ g : Nat → Int, sm (fun k => g (opp k)) 16 = sm g 16 := fun g => by simp only [sm, opp, Nat.reduceDiv, Nat.reduceMod, Nat.reduceAdd, Nat.reduceMul, Nat.reduceSub]; omega
  rw [← hr (fun k => f (plus k i))]
  apply sm_congr
  intro j hj
  show f (plus i (opp j)) = f (plus (opp j) i)
  rw [plus_comm]
theorem opp_opp_plus_all : ∀ i : Fin 16, ∀ k : Fin 16, plus i (opp (plus i (opp k))) = k := by decide +kernel
theorem opp_opp_plus {i k : Nat} (hi : i < 16) (hk : k < 16) : plus i (opp (plus i (opp k))) = k := opp_opp_plus_all ⟨i, hi⟩ ⟨k, hk⟩
theorem fol_comm (a b : List Int) : fol a b = fol b a := by
  apply ext_gi' (by simp)
  intro i hi
  have hi' : i < 16 := by simpa using hi
  rw [gi_fol _ _ _ hi', gi_fol _ _ _ hi']
  rw [← sm_rev (fun k => gi a k * gi b (plus i (opp k))) i hi']
  apply sm_congr
  intro k hk
  show gi a (plus i (opp k)) * gi b (plus i (opp (plus i (opp k)))) = gi b k * gi a (plus i (opp k))
  rw [opp_opp_plus hi' hk, Int.mul_comm]
theorem sm_fol (a b : List Int) : sm (gi (fol a b)) 16 = sm (gi a) 16 * sm (gi b) 16 := by
  rw [sm_congr (g := fun i => sm (fun k => gi a k * gi b (plus i (opp k))) 16) (fun j hj => gi_fol _ _ _ hj), sm_comm]
  rw [sm_congr (g := fun k => gi a k * sm (gi b) 16) (fun k hk => by rw [sm_mul, sm_plus (gi b) (opp k) (opp_lt k)]), sm_mul']
theorem fold_any_order {a b : List Int} (h : (skyFold a b).2 = true) :
    (skyFold b a).2 = true ∧ (skyFold b a).1 = (skyFold a b).1 ∧ (skySum a).2 = true ∧ (skySum b).2 = true ∧ (skySum (skyFold a b).1).2 = true ∧ (skySum (skyFold a b).1).1 = (skySum a).1 * (skySum b).1 ∧
    (-10000000000000 ≤ (skySum a).1 * (skySum b).1 ∧ (skySum a).1 * (skySum b).1 ≤ 10000000000000) := by
  obtain ⟨ha, hb, hv, e⟩ := fold_ok h
  rw [e, fold_mk hb ha (by rw [fol_comm]; exact hv), sum_mk ha, sum_mk hb, sum_mk hv]
  have b1 := sm_bd (f := gi b) (B := 100000) (n := 16) (fun j _ => skyB_bd hb j)
  have b2 := sm_bd (f := gi a) (B := 100000) (n := 16) (fun j _ => skyB_bd ha j)
  have b3 := mul_bd (x := sm (gi a) 16) (y := sm (gi b) 16) (B := 1600000) (C := 1600000) (by omega) (by omega)
  exact ⟨rfl, fol_comm b a, rfl, rfl, rfl, sm_fol a b, by show _ ≤ sm (gi a) 16 * sm (gi b) 16; omega, by show sm (gi a) 16 * sm (gi b) 16 ≤ _; omega⟩
/-- folding with a single number is a shift -/
theorem fol_spot {a : List Int} (ha : a.length = 16) {k : Nat} (hk : k < 16) : fol a (spotL k 1) = shf a k := by
  rw [fol_comm]
  apply ext_gi' (by simp)
  intro i hi
  have hi' : i < 16 := by simpa using hi
  rw [gi_fol _ _ _ hi', gi_shf _ _ _ hi']
  rw [sm_congr (g := fun j => if j = k then gi a (plus i (opp k)) else 0) (fun j hj => by
    rw [gi_spot _ _ _ hk]
    by_cases e : j = k
    · rw [if_pos e, if_pos e, e]; omega
    · rw [if_neg e, if_neg e]; omega), sm_single _ _ _ hk]
theorem fol_shf {a b : List Int} {p : Nat} (hp : p < 16) : fol (shf a p) b = shf (fol a b) p := by
  rw [fol_comm]
  apply ext_gi' (by simp)
  intro i hi
  have hi' : i < 16 := by simpa using hi
  rw [gi_fol _ _ _ hi', gi_shf _ _ _ hi', fol_comm a b, gi_fol _ _ _ (plus_lt _ _)]
  apply sm_congr
  intro k hk
  rw [gi_shf _ _ _ (plus_lt _ _), plus_assoc, plus_comm (opp k) (opp p), ← plus_assoc]
theorem fol_add {a b c : List Int} (hb : b.length = 16) (t : Int) : fol a (addT b c t) = addT (fol a b) (fol a c) t := by
  apply ext_gi' (by simp)
  intro i hi
  have hi' : i < 16 := by simpa using hi
  rw [gi_fol _ _ _ hi', gi_addT _ _ _ _ (by simpa using hi'), gi_fol _ _ _ hi', gi_fol _ _ _ hi', ← sm_mul, ← sm_add]
  apply sm_congr
  intro k hk
  rw [gi_addT _ _ _ _ (by rw [hb]; exact plus_lt _ _), Int.mul_add, Int.mul_left_comm]
theorem fol_assoc (a b c : List Int) : fol (fol a b) c = fol a (fol b c) := by
  apply ext_gi' (by simp)
  intro i hi
  have hi' : i < 16 := by simpa using hi
  rw [gi_fol _ _ _ hi', gi_fol _ _ _ hi']
  rw [sm_congr (g := fun k => sm (fun j => gi a j * gi b (plus k (opp j)) * gi c (plus i (opp k))) 16) (fun k hk => by rw [gi_fol _ _ _ hk, sm_mul'])]
  rw [sm_comm]
  apply sm_congr
  intro j hj
  rw [gi_fol _ _ _ (plus_lt _ _), ← sm_mul]
  rw [← sm_plus (fun k => gi a j * gi b (plus k (opp j)) * gi c (plus i (opp k))) j hj]
  apply sm_congr
  intro k hk
  show gi a j * gi b (plus (plus k j) (opp j)) * gi c (plus i (opp (plus k j))) = gi a j * (gi b k * gi c (plus (plus i (opp j)) (opp k)))
  rw [plus_opp hk, Int.mul_assoc, opp_plus hk hj, ← plus_assoc]

end Go.Proofs.Ytfigjmlipffdpaa
