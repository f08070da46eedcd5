/-
  Plain mathematics of solved amplitudes and of the rest of solved phases. No program is walked here.
-/
import Derived.Test.YtpdekpeknnlfmaaApplyL
import Derived.Test.YtpdekpeknnlfmaaGet
namespace Go.Proofs.Ytpdekpeknnlfmaa
set_option linter.unusedVariables false

/- the rest of phases -/
def sgnd (x : Int) : Int := if x > 180 then x - 360 else x
/-- the distance of two phases -/
def near (a b : Int) : Int := max (sgnd ((a - b) % 360)) (-(sgnd ((a - b) % 360)))
theorem near_bd (a b : Int) : 0 ≤ near a b ∧ near a b ≤ 180 := by
  unfold near sgnd
  split <;> omega
def restE (ls ms : List (Int × Int)) (ph : List Int) (N p : Nat) : Int := near (g2 ls p) ((g2 ms p + gi ph (b2 N p) - gi ph (b1 N p)) % 360)
/-- the greatest of the first k -/
def mx (f : Nat → Int) : Nat → Int
  | 0 => 0
  | k + 1 => max (mx f k) (f k)
theorem mx_bd {f : Nat → Int} {k : Nat} (h : ∀ j, j < k → f j ≤ 180) : 0 ≤ mx f k ∧ mx f k ≤ 180 := by
  induction k with
  | zero => simp [mx]
  | succ k ih =>
    have h1 := ih (fun j hj => h j (by omega))
    have h2 := h k (by omega)
    simp only [mx]
    omega
theorem mx_near {f g : Nat → Int} {k : Nat} (h : ∀ j, j < k → f j - g j ≤ 1 ∧ g j - f j ≤ 1) : mx f k - mx g k ≤ 1 ∧ mx g k - mx f k ≤ 1 := by
  induction k with
  | zero => simp [mx]
  | succ k ih =>
    have h1 := ih (fun j hj => h j (by omega))
    have h2 := h k (by omega)
    simp only [mx]
    omega
def allP (ph : List Int) : Bool := ph.all phB
theorem allP_at {ph : List Int} (h : allP ph = true) {j : Nat} (hj : j < ph.length) : 0 ≤ gi ph j ∧ gi ph j < 360 := by
  unfold allP at h
  rw [List.all_eq_true] at h
  have := inB_true (h ph[j] (List.getElem_mem hj))
  have e : gi ph j = ph[j] := by simp [gi, hj]
  omega
theorem allP_mk {ph : List Int} (h : ∀ j, j < ph.length → phB (gi ph j) = true) : allP ph = true := by
  unfold allP
  rw [List.all_eq_true]
  intro x hx
  obtain ⟨j, hj, rfl⟩ := List.mem_iff_getElem.1 hx
  have e : gi ph j = ph[j] := by simp [gi, hj]
  rw [← e]
  exact h j hj
theorem allP_not {ph : List Int} {j : Nat} (hj : j < ph.length) (h : phB (gi ph j) = false) : allP ph = false := by
  cases hh : allP ph with
  | false => rfl
  | true =>
    have := allP_at hh hj
    rw [show phB (gi ph j) = true from inB_mk (by omega)] at h
    cases h
def restB (n : Int) (ls ms : List (Int × Int)) (ph : List Int) : Bool := visB n ls && visB n ms && decide ((ph.length : Int) = n) && allP ph
def solveRest (n : Int) (ls ms : List (Int × Int)) (ph : List Int) : Int := if restB n ls ms ph = true then mx (restE ls ms ph n.toNat) (nb n.toNat) else -1
theorem rest_mk {N : Nat} {ls ms : List (Int × Int)} {ph : List Int} (h : restB (N : Int) ls ms ph = true) : solveRest (N : Int) ls ms ph = mx (restE ls ms ph N) (nb N) := by simp [solveRest, h]
theorem rest_no {n : Int} {ls ms : List (Int × Int)} {ph : List Int} (h : restB n ls ms ph = false) : solveRest n ls ms ph = -1 := by simp [solveRest, h]
theorem rest_parts {n : Int} {ls ms : List (Int × Int)} {ph : List Int} (h : restB n ls ms ph = true) : ∃ N : Nat, n = (N : Int) ∧ 2 ≤ N ∧ N ≤ 7 ∧ visB (N : Int) ls = true ∧ visB (N : Int) ms = true ∧ ph.length = N ∧ allP ph = true := by
  simp only [restB, Bool.and_eq_true, decide_eq_true_eq] at h
  obtain ⟨⟨⟨h1, h2⟩, h3⟩, h4⟩ := h
  obtain ⟨N, rfl, n2, n7⟩ := many_nat (visB_ok h1).1
  exact ⟨N, rfl, n2, n7, h1, h2, by omega, h4⟩
theorem restB_mk {N : Nat} {ls ms : List (Int × Int)} {ph : List Int} (h1 : visB (N : Int) ls = true) (h2 : visB (N : Int) ms = true) (h3 : ph.length = N) (h4 : allP ph = true) : restB (N : Int) ls ms ph = true := by
  simp [restB, h1, h2, h3, h4]
theorem rest_bd (n : Int) (ls ms : List (Int × Int)) (ph : List Int) : -1 ≤ solveRest n ls ms ph ∧ solveRest n ls ms ph ≤ 180 := by
  cases h : restB n ls ms ph with
  | false => rw [rest_no h]; omega
  | true =>
    obtain ⟨N, rfl, _⟩ := rest_parts h
    rw [rest_mk h]
    have := mx_bd (f := restE ls ms ph N) (k := nb N) (fun j _ => (near_bd _ _).2)
    omega
theorem rest_pos {n : Int} {ls ms : List (Int × Int)} {ph : List Int} (h : ¬ solveRest n ls ms ph < 0) : restB n ls ms ph = true := by
  cases hb : restB n ls ms ph with
  | true => rfl
  | false => rw [rest_no hb] at h; omega
theorem gi_setk {ph : List Int} {k j : Nat} {z : Int} (hk : k < ph.length) : gi (ph.set k z) j = if j = k then z else gi ph j := by
  unfold gi
  by_cases e : j = k
  · subst e; simp [hk]
  · rw [if_neg e]; simp [List.getD_eq_getElem?_getD, Ne.symm e]
theorem near_one (a c d x y : Int) (hd : d = 1 ∨ d = -1 ∨ d = 0) (h : y = (x + d) % 360) : near a y - near a (x % 360) ≤ 1 ∧ near a (x % 360) - near a y ≤ 1 := by
  subst h
  unfold near sgnd
  split <;> split <;> omega
/-- one phase more by one: the rest is another by one at most -/
theorem rest_one {N k : Nat} {ls ms : List (Int × Int)} {ph : List Int} (h : restB (N : Int) ls ms ph = true) (hk : k < N) :
    restB (N : Int) ls ms (ph.set k ((gi ph k + 1) % 360)) = true ∧ solveRest (N : Int) ls ms (ph.set k ((gi ph k + 1) % 360)) - solveRest (N : Int) ls ms ph ≤ 1 ∧ solveRest (N : Int) ls ms ph - solveRest (N : Int) ls ms (ph.set k ((gi ph k + 1) % 360)) ≤ 1 := by
  obtain ⟨M, e, n2, n7, h1, h2, h3, h4⟩ := rest_parts h
  obtain rfl : N = M := by omega
  have hk' : k < ph.length := by omega
  have h' : restB (N : Int) ls ms (ph.set k ((gi ph k + 1) % 360)) = true := restB_mk h1 h2 (by simpa using h3) (allP_mk fun j hj => by
    have hj' : j < ph.length := by simpa using hj
    rw [gi_setk hk']
    split
    · exact inB_mk (by omega)
    · have := allP_at h4 hj'; exact inB_mk (by omega))
  refine ⟨h', ?_⟩
  rw [rest_mk h, rest_mk h']
  refine mx_near fun p hp => ?_
  have hb := bs_at n7 hp
  unfold restE
  rw [gi_setk hk', gi_setk hk']
  by_cases e1 : b1 N p = k
  · rw [if_neg (by omega : ¬ b2 N p = k), if_pos e1, e1]
    exact near_one _ 0 (-1) (g2 ms p + gi ph (b2 N p) - gi ph k) _ (by omega) (by omega)
  · by_cases e2 : b2 N p = k
    · rw [if_pos e2, if_neg e1, e2]
      exact near_one _ 0 1 (g2 ms p + gi ph k - gi ph (b1 N p)) _ (by omega) (by omega)
    · rw [if_neg e2, if_neg e1]
      exact near_one _ 0 0 (g2 ms p + gi ph (b2 N p) - gi ph (b1 N p)) _ (by omega) (by omega)

/- amplitudes -/
theorem idx_first_all : ∀ N : Fin 8, ∀ j : Fin 8, 0 < j.1 → j.1 < N.1 → idx N.1 0 j.1 = j.1 - 1 := by decide +kernel
theorem idx_first {N j : Nat} (h7 : N ≤ 7) (h0 : 0 < j) (hj : j < N) : idx N 0 j = j - 1 := idx_first_all ⟨N, by omega⟩ ⟨j, by omega⟩ h0 hj
/-- whether antenna j's amplitude follows, if that of antenna 0 is f -/
def dv (ls ms : List (Int × Int)) (f : Nat) (j : Nat) : Bool := g1 ls (j - 1) % (g1 ms (j - 1) * (f : Int)) == 0 && !decide (99 < g1 ls (j - 1) / (g1 ms (j - 1) * (f : Int)))
def ampV (ls ms : List (Int × Int)) (f j : Nat) : Int := if j = 0 then (f : Int) else g1 ls (j - 1) / (g1 ms (j - 1) * (f : Int))
def ampL (ls ms : List (Int × Int)) (f N : Nat) : List Int := (List.range N).map (ampV ls ms f)
@[simp] theorem ampL_length (ls ms : List (Int × Int)) (f N : Nat) : (ampL ls ms f N).length = N := by simp [ampL]
theorem gi_ampL {ls ms : List (Int × Int)} {f N j : Nat} (h : j < N) : gi (ampL ls ms f N) j = ampV ls ms f j := by simp [ampL, gi, h]
theorem ampL_succ (ls ms : List (Int × Int)) (f k : Nat) : ampL ls ms f (k + 1) = ampL ls ms f k ++ [ampV ls ms f k] := by simp [ampL, List.range_succ]
theorem ampL_one (ls ms : List (Int × Int)) (f : Nat) : ampL ls ms f 1 = [(f : Int)] := by simp [ampL, ampV, List.range_succ]
def dvAll (ls ms : List (Int × Int)) (f N : Nat) : Bool := (List.range (N - 1)).all fun d => dv ls ms f (d + 1)
def fits (ls ms : List (Int × Int)) (xs : List Int) (N : Nat) : Bool := (List.range (nb N)).all fun p => g1 ls p == g1 ms p * gi xs (b1 N p) * gi xs (b2 N p)
def okF (ls ms : List (Int × Int)) (N f : Nat) : Bool := dvAll ls ms f N && fits ls ms (ampL ls ms f N) N
theorem dvAll_iff {ls ms : List (Int × Int)} {f N : Nat} : dvAll ls ms f N = true ↔ ∀ j, 0 < j → j < N → dv ls ms f j = true := by
  unfold dvAll
  rw [List.all_eq_true]
  constructor
  · intro h j h0 hj
    have := h (j - 1) (by simp; omega)
    rwa [show j - 1 + 1 = j by omega] at this
  · intro h d hd
    exact h (d + 1) (by omega) (by simp at hd; omega)
theorem fits_iff {ls ms : List (Int × Int)} {xs : List Int} {N : Nat} : fits ls ms xs N = true ↔ ∀ p, p < nb N → g1 ls p = g1 ms p * gi xs (b1 N p) * gi xs (b2 N p) := by
  simp [fits]
theorem dvAll_no {ls ms : List (Int × Int)} {f N j : Nat} (h0 : 0 < j) (hj : j < N) (h : dv ls ms f j = false) : okF ls ms N f = false := by
  cases hh : dvAll ls ms f N with
  | false => simp [okF, hh]
  | true => rw [dvAll_iff.1 hh j h0 hj] at h; cases h
theorem fits_no {ls ms : List (Int × Int)} {f N p : Nat} (hp : p < nb N) (h : (g1 ls p == g1 ms p * gi (ampL ls ms f N) (b1 N p) * gi (ampL ls ms f N) (b2 N p)) = false) : okF ls ms N f = false := by
  cases hh : fits ls ms (ampL ls ms f N) N with
  | false => simp [okF, hh]
  | true => rw [fits_iff.1 hh p hp] at h; simp at h
theorem okF_mk {ls ms : List (Int × Int)} {f N : Nat} (h1 : ∀ j, 0 < j → j < N → dv ls ms f j = true) (h2 : ∀ p, p < nb N → g1 ls p = g1 ms p * gi (ampL ls ms f N) (b1 N p) * gi (ampL ls ms f N) (b2 N p)) : okF ls ms N f = true := by
  simp [okF, dvAll_iff.2 h1, fits_iff.2 h2]
theorem okF_parts {ls ms : List (Int × Int)} {f N : Nat} (h : okF ls ms N f = true) : (∀ j, 0 < j → j < N → dv ls ms f j = true) ∧ ∀ p, p < nb N → g1 ls p = g1 ms p * gi (ampL ls ms f N) (b1 N p) * gi (ampL ls ms f N) (b2 N p) := by
  simp only [okF, Bool.and_eq_true] at h
  exact ⟨dvAll_iff.1 h.1, fits_iff.1 h.2⟩
/-- the first number from f on, among m, that is fine -/
def fst (ok : Nat → Bool) : Nat → Nat → Option Nat
  | _, 0 => none
  | f, m + 1 => if ok f then some f else fst ok (f + 1) m
theorem fst_hit {ok : Nat → Bool} {g : Nat} : ∀ (m f : Nat), f ≤ g → g < f + m → (∀ i, f ≤ i → i < g → ok i = false) → ok g = true → fst ok f m = some g
  | 0, f, h1, h2, _, _ => by omega
  | m + 1, f, h1, h2, h3, h4 => by
    unfold fst
    by_cases e : f = g
    · subst e; rw [if_pos h4]
    · rw [h3 f (Nat.le_refl _) (by omega), if_neg (by simp)]
      exact fst_hit m (f + 1) (by omega) (by omega) (fun i hi hg => h3 i (by omega) hg) h4
theorem fst_none {ok : Nat → Bool} : ∀ (m f : Nat), (∀ i, f ≤ i → i < f + m → ok i = false) → fst ok f m = none
  | 0, f, _ => rfl
  | m + 1, f, h => by
    unfold fst
    rw [h f (Nat.le_refl _) (by omega), if_neg (by simp)]
    exact fst_none m (f + 1) (fun i hi hg => h i (by omega) (by omega))
theorem fst_some {ok : Nat → Bool} {g : Nat} : ∀ (m f : Nat), fst ok f m = some g → f ≤ g ∧ g < f + m ∧ ok g = true
  | 0, f, h => by simp [fst] at h
  | m + 1, f, h => by
    unfold fst at h
    split at h
    · rename_i e
      simp at h
      subst h
      exact ⟨by omega, by omega, e⟩
    · have := fst_some m (f + 1) h
      exact ⟨by omega, by omega, this.2.2⟩
def ampB (n : Int) (ls ms : List (Int × Int)) : Bool := visB n ls && visB n ms && !decide (n < 3)
def solveAmps (n : Int) (ls ms : List (Int × Int)) : List Int × Bool :=
  if ampB n ls ms = true then (match fst (okF ls ms n.toNat) 1 99 with | some f => (ampL ls ms f n.toNat, true) | none => ([], false)) else ([], false)
theorem amps_no {n : Int} {ls ms : List (Int × Int)} (h : ampB n ls ms = false) : solveAmps n ls ms = ([], false) := by simp [solveAmps, h]
theorem amps_none {N : Nat} {ls ms : List (Int × Int)} (h : ∀ f, 1 ≤ f → f < 100 → okF ls ms N f = false) : solveAmps (N : Int) ls ms = ([], false) := by
  unfold solveAmps
  split
  · rw [Int.toNat_natCast, fst_none 99 1 h]
  · rfl
theorem ampB_parts {n : Int} {ls ms : List (Int × Int)} (h : ampB n ls ms = true) : ∃ N : Nat, n = (N : Int) ∧ 3 ≤ N ∧ N ≤ 7 ∧ visB (N : Int) ls = true ∧ visB (N : Int) ms = true := by
  simp only [ampB, Bool.and_eq_true, Bool.not_eq_true', decide_eq_false_iff_not] at h
  obtain ⟨N, rfl, n2, n7⟩ := many_nat (visB_ok h.1.1).1
  exact ⟨N, rfl, by omega, n7, h.1.1, h.1.2⟩
theorem ampB_mk {N : Nat} {ls ms : List (Int × Int)} (n3 : 3 ≤ N) (h1 : visB (N : Int) ls = true) (h2 : visB (N : Int) ms = true) : ampB (N : Int) ls ms = true := by
  simp [ampB, h1, h2]; omega
theorem amps_hit {N g : Nat} {ls ms : List (Int × Int)} (hb : ampB (N : Int) ls ms = true) (g1 : 1 ≤ g) (g2 : g < 100) (h : ∀ f, 1 ≤ f → f < g → okF ls ms N f = false) (hg : okF ls ms N g = true) : solveAmps (N : Int) ls ms = (ampL ls ms g N, true) := by
  unfold solveAmps
  rw [if_pos hb, Int.toNat_natCast, fst_hit 99 1 g1 (by omega) h hg]
theorem amps_ok {n : Int} {ls ms : List (Int × Int)} (h : (solveAmps n ls ms).2 = true) : ∃ N f : Nat, n = (N : Int) ∧ 3 ≤ N ∧ N ≤ 7 ∧ visB (N : Int) ls = true ∧ visB (N : Int) ms = true ∧ 1 ≤ f ∧ f < 100 ∧ okF ls ms N f = true ∧ solveAmps (N : Int) ls ms = (ampL ls ms f N, true) := by
  unfold solveAmps at h
  split at h
  · rename_i hb
    obtain ⟨N, rfl, n3, n7, h1, h2⟩ := ampB_parts hb
    rw [Int.toNat_natCast] at h
    cases hf : fst (okF ls ms N) 1 99 with
    | none => rw [hf] at h; cases h
    | some f =>
      obtain ⟨f1, f2, f3⟩ := fst_some _ _ hf
      refine ⟨N, f, rfl, n3, n7, h1, h2, f1, by omega, f3, ?_⟩
      unfold solveAmps
      rw [if_pos hb, Int.toNat_natCast, hf]
  · cases h
theorem amps_len (n : Int) (ls ms : List (Int × Int)) : (solveAmps n ls ms).1.length ≤ 1048592 := by
  cases h : (solveAmps n ls ms).2 with
  | true =>
    obtain ⟨N, f, rfl, _, h7, _, _, _, _, _, e⟩ := amps_ok h
    rw [e]; simp; omega
  | false =>
    unfold solveAmps at h ⊢
    split
    · split
      · rename_i hb _ f hf; rw [if_pos hb, hf] at h; cases h
      · simp
    · simp
/-- what a quotient is good for -/
theorem dv_parts {ls ms : List (Int × Int)} {N f j : Nat} (h1 : visB (N : Int) ls = true) (h2 : visB (N : Int) ms = true) (hf : 1 ≤ f) (h0 : 0 < j) (hj : j < N) (h : dv ls ms f j = true) :
    1 ≤ ampV ls ms f j ∧ ampV ls ms f j ≤ 99 ∧ g1 ls (j - 1) = g1 ms (j - 1) * (f : Int) * ampV ls ms f j := by
  have hN := vis_N h1
  have hp : j - 1 < nb N := by rw [← idx_first hN.2 h0 hj]; exact (idx_at hN.2 h0 hj).1
  have v1 := vis_at h1 hp
  have v2 := vis_at h2 hp
  simp only [dv, Bool.and_eq_true, beq_iff_eq, Bool.not_eq_true', decide_eq_false_iff_not] at h
  unfold ampV
  rw [if_neg (by omega)]
  obtain ⟨d1, d2⟩ := h
  have hD := mul_pos2 v2.1 (show (1 : Int) ≤ (f : Int) by omega)
  generalize g1 ms (j - 1) * (f : Int) = D at *
  have e := Int.mul_ediv_add_emod (g1 ls (j - 1)) D
  rw [d1, Int.add_zero] at e
  have q0 : 0 ≤ g1 ls (j - 1) / D := Int.ediv_nonneg (by omega) (by omega)
  have q1 : g1 ls (j - 1) / D ≠ 0 := fun h0 => by rw [h0, Int.mul_zero] at e; omega
  exact ⟨by omega, by omega, e.symm⟩
theorem amp_bd {ls ms : List (Int × Int)} {N f j : Nat} (h1 : visB (N : Int) ls = true) (h2 : visB (N : Int) ms = true) (hf : 1 ≤ f) (hf2 : f < 100) (hd : ∀ j, 0 < j → j < N → dv ls ms f j = true) (hj : j < N) : 1 ≤ ampV ls ms f j ∧ ampV ls ms f j ≤ 99 := by
  by_cases h0 : j = 0
  · subst h0; simp [ampV]; omega
  · have := dv_parts h1 h2 hf (by omega) hj (hd j (by omega) hj)
    exact ⟨this.1, this.2.1⟩
/-- solved amplitudes fit -/
theorem amps_fit {n : Int} {ls ms : List (Int × Int)} (h : (solveAmps n ls ms).2 = true) : ∃ N : Nat, n = (N : Int) ∧ 3 ≤ N ∧ N ≤ 7 ∧ visB (N : Int) ls = true ∧ visB (N : Int) ms = true ∧ (solveAmps (N : Int) ls ms).1.length = N ∧
    (∀ j, j < N → 1 ≤ gi (solveAmps (N : Int) ls ms).1 j ∧ gi (solveAmps (N : Int) ls ms).1 j ≤ 99) ∧ ∀ p, p < nb N → g1 ls p = g1 ms p * gi (solveAmps (N : Int) ls ms).1 (b1 N p) * gi (solveAmps (N : Int) ls ms).1 (b2 N p) := by
  obtain ⟨N, f, rfl, n3, n7, h1, h2, f1, f2, hok, e⟩ := amps_ok h
  obtain ⟨hd, hf⟩ := okF_parts hok
  refine ⟨N, rfl, n3, n7, h1, h2, by rw [e]; simp, fun j hj => ?_, fun p hp => by rw [e]; exact hf p hp⟩
  rw [e]
  simp only []
  rw [gi_ampL hj]
  exact amp_bd h1 h2 f1 f2 hd hj
/-- applied amplitudes are solved -/
theorem amps_apply {N : Nat} {ls ms : List (Int × Int)} {gs : List Int} (n3 : 3 ≤ N) (h1 : visB (N : Int) ls = true) (h2 : visB (N : Int) ms = true) (hg : ∀ j, j < N → 1 ≤ gi gs j ∧ gi gs j ≤ 99)
    (hf : ∀ p, p < nb N → g1 ls p = g1 ms p * gi gs (b1 N p) * gi gs (b2 N p)) : (solveAmps (N : Int) ls ms).2 = true ∧ (solveAmps (N : Int) ls ms).1.length = N ∧ ∀ j, j < N → gi (solveAmps (N : Int) ls ms).1 j = gi gs j := by
  have hN := vis_N h1
  obtain ⟨G, hG⟩ : ∃ G : Nat, (G : Int) = gi gs 0 := ⟨(gi gs 0).toNat, by have := hg 0 (by omega); omega⟩
  have g0 := hg 0 (by omega)
  have first : ∀ j, 0 < j → j < N → g1 ls (j - 1) = g1 ms (j - 1) * (G : Int) * gi gs j ∧ 1 ≤ g1 ms (j - 1) := fun j h0 hj => by
    have e := idx_first hN.2 h0 hj
    obtain ⟨x, y, z⟩ := idx_at hN.2 h0 hj
    have := hf _ x
    rw [y, z, e] at this
    rw [hG]
    exact ⟨this, (vis_at h2 (by rw [← e]; exact x)).1⟩
  have v : ∀ j, j < N → ampV ls ms G j = gi gs j := fun j hj => by
    unfold ampV
    split
    · rename_i e; subst e; exact hG
    · obtain ⟨e, p⟩ := first j (by omega) hj
      have hD := mul_pos2 p (show (1 : Int) ≤ (G : Int) by omega)
      rw [e]
      exact Int.mul_ediv_cancel_left _ (by omega)
  have hokG : okF ls ms N G = true := by
    refine okF_mk (fun j h0 hj => ?_) (fun p hp => ?_)
    · have hv := v j hj
      unfold ampV at hv
      rw [if_neg (by omega)] at hv
      obtain ⟨e, p⟩ := first j h0 hj
      have := hg j hj
      simp only [dv, Bool.and_eq_true, beq_iff_eq, Bool.not_eq_true', decide_eq_false_iff_not]
      refine ⟨?_, by rw [hv]; omega⟩
      rw [e]
      exact Int.mul_emod_right _ _
    · have hb := bs_lt hN.2 hp
      rw [gi_ampL hb.1, gi_ampL hb.2, v _ hb.1, v _ hb.2]
      exact hf p hp
  have hno : ∀ f, 1 ≤ f → f < G → okF ls ms N f = false := fun f f1 fG => by
    cases hk : okF ls ms N f with
    | false => rfl
    | true =>
      exfalso
      obtain ⟨hd, hfit⟩ := okF_parts hk
      have a1 := dv_parts h1 h2 f1 (show 0 < 1 by omega) (by omega) (hd 1 (by omega) (by omega))
      have a2 := dv_parts h1 h2 f1 (show 0 < 2 by omega) (by omega) (hd 2 (by omega) (by omega))
      have c1 := first 1 (by omega) (by omega)
      have c2 := first 2 (by omega) (by omega)
      obtain ⟨x, y, z⟩ := idx_at hN.2 (show 1 < 2 by omega) (show 2 < N by omega)
      have e12 := hfit _ x
      have d12 := hf _ x
      rw [y, z, gi_ampL (by omega), gi_ampL (by omega)] at e12
      rw [y, z] at d12
      have p12 := (vis_at h2 x).1
      have q1 := hg 1 (by omega)
      have q2 := hg 2 (by omega)
      generalize ampV ls ms f 1 = A at *
      generalize ampV ls ms f 2 = B at *
      generalize gi gs 1 = X at *
      generalize gi gs 2 = Y at *
      generalize g1 ms (idx N 1 2) = M at *
      rw [c1.1] at a1
      rw [c2.1] at a2
      have w1 : (G : Int) * X = (f : Int) * A := by
        have := a1.2.2
        rw [Int.mul_assoc, Int.mul_assoc] at this
        exact Int.eq_of_mul_eq_mul_left (by have := c1.2; omega) this
      have w2 : (G : Int) * Y = (f : Int) * B := by
        have := a2.2.2
        rw [Int.mul_assoc, Int.mul_assoc] at this
        exact Int.eq_of_mul_eq_mul_left (by have := c2.2; omega) this
      have w3 : X * Y = A * B := by
        rw [d12, Int.mul_assoc, Int.mul_assoc] at e12
        exact Int.eq_of_mul_eq_mul_left (by omega) e12
      have w4 : (G : Int) * (G : Int) * (A * B) = (f : Int) * (f : Int) * (A * B) := by
        calc (G : Int) * (G : Int) * (A * B) = ((G : Int) * X) * ((G : Int) * Y) := by rw [← w3]; simp only [Int.mul_assoc, Int.mul_left_comm, Int.mul_comm]
          _ = (f : Int) * (f : Int) * (A * B) := by rw [w1, w2]; simp only [Int.mul_assoc, Int.mul_left_comm, Int.mul_comm]
      have hAB := mul_pos2 a1.1 a2.1
      have w5 := Int.eq_of_mul_eq_mul_right (by omega) w4
      have w6 : (f : Int) * (f : Int) < (G : Int) * (G : Int) := by
        have m1 := Int.mul_le_mul_of_nonneg_left (show (f : Int) ≤ (G : Int) by omega) (show (0 : Int) ≤ (f : Int) by omega)
        have m2 := Int.mul_lt_mul_of_pos_right (show (f : Int) < (G : Int) by omega) (show (0 : Int) < (G : Int) by omega)
        omega
      omega
  have hs := amps_hit (ampB_mk n3 h1 h2) (by omega) (by omega) hno hokG
  rw [hs]
  exact ⟨rfl, by simp, fun j hj => by rw [gi_ampL hj]; exact v j hj⟩
theorem amps_two {n : Int} {ls ms : List (Int × Int)} (h : n < 3) : (solveAmps n ls ms).2 = false := by
  rw [amps_no (by simp [ampB, h])]
/-- a list needs no amplitudes for itself -/
theorem amps_self {N : Nat} {ls : List (Int × Int)} (n3 : 3 ≤ N) (h1 : visB (N : Int) ls = true) : (solveAmps (N : Int) ls ls).2 = true ∧ (solveAmps (N : Int) ls ls).1.length = N ∧ ∀ j, j < N → gi (solveAmps (N : Int) ls ls).1 j = 1 := by
  have hg : ∀ j, j < N → gi (List.replicate N (1 : Int)) j = 1 := fun j hj => by simp [gi, hj]
  have hN := vis_N h1
  obtain ⟨a, b, c⟩ := amps_apply (gs := List.replicate N 1) n3 h1 h1 (fun j hj => by rw [hg j hj]; omega) (fun p hp => by
    have hb := bs_lt hN.2 hp
    rw [hg _ hb.1, hg _ hb.2]; omega)
  exact ⟨a, b, fun j hj => by rw [c j hj, hg j hj]⟩
/-- the amplitude of antenna 0, squared -/
theorem amps_square {n : Int} {ls ms : List (Int × Int)} (h : (solveAmps n ls ms).2 = true) : gi (solveAmps n ls ms).1 0 * gi (solveAmps n ls ms).1 0 * g1 ls (gk n.toNat 1 2) * g1 ms (gk n.toNat 0 1) * g1 ms (gk n.toNat 0 2) = g1 ls (gk n.toNat 0 1) * g1 ls (gk n.toNat 0 2) * g1 ms (gk n.toNat 1 2) := by
  obtain ⟨N, rfl, n3, n7, h1, h2, hl, hb, hf⟩ := amps_fit h
  rw [Int.toNat_natCast, gk_lt (by omega), gk_lt (by omega), gk_lt (by omega)]
  obtain ⟨x1, y1, z1⟩ := idx_at n7 (show 0 < 1 by omega) (show 1 < N by omega)
  obtain ⟨x2, y2, z2⟩ := idx_at n7 (show 0 < 2 by omega) (show 2 < N by omega)
  obtain ⟨x3, y3, z3⟩ := idx_at n7 (show 1 < 2 by omega) (show 2 < N by omega)
  have f1 := hf _ x1
  have f2 := hf _ x2
  have f3 := hf _ x3
  rw [y1, z1] at f1
  rw [y2, z2] at f2
  rw [y3, z3] at f3
  rw [f1, f2, f3]
  simp only [Int.mul_assoc, Int.mul_left_comm, Int.mul_comm]
end Go.Proofs.Ytpdekpeknnlfmaa
