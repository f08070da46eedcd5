/-
  Plain mathematics of linked antennas: labels that are the least of their group. No program is walked here.
-/
import Derived.Test.YtopneihamefohaaMem
namespace Go.Proofs.Ytopneihamefohaa
set_option linter.unusedVariables false

/-- L gives each of n antennas the least one with which the pairs E link it: said without paths. -/
structure Good (n : Nat) (E : Nat → Nat → Prop) (L : Nat → Nat) : Prop where
  le : ∀ v, v < n → L v ≤ v
  edge : ∀ i j, i < j → j < n → E i j → L i = L j
  keep : ∀ f : Nat → Nat, (∀ i j, i < j → j < n → E i j → f i = f j) → ∀ v, v < n → f (L v) = f v

theorem Good.lt {n : Nat} {E : Nat → Nat → Prop} {L : Nat → Nat} (h : Good n E L) {v : Nat} (hv : v < n) : L v < n := Nat.lt_of_le_of_lt (h.le v hv) hv
theorem Good.idem {n : Nat} {E : Nat → Nat → Prop} {L : Nat → Nat} (h : Good n E L) {v : Nat} (hv : v < n) : L (L v) = L v := h.keep L h.edge v hv

/-- More pairs, lesser labels. -/
theorem Good.mono {n : Nat} {E E' : Nat → Nat → Prop} {L L' : Nat → Nat} (h : Good n E L) (h' : Good n E' L') (hE : ∀ i j, i < j → j < n → E' i j → E i j) {v : Nat} (hv : v < n) : L v ≤ L' v := by
  have h1 := h'.keep L (fun i j hi hj he => h.edge i j hi hj (hE i j hi hj he)) v hv
  have h2 := h.le (L' v) (h'.lt hv)
  omega
theorem Good.unique {n : Nat} {E : Nat → Nat → Prop} {L L' : Nat → Nat} (h : Good n E L) (h' : Good n E L') {v : Nat} (hv : v < n) : L v = L' v :=
  Nat.le_antisymm (h.mono h' (fun _ _ _ _ e => e) hv) (h'.mono h (fun _ _ _ _ e => e) hv)

theorem good_none (n : Nat) {E : Nat → Nat → Prop} (hE : ∀ i j, i < j → j < n → ¬ E i j) : Good n E (fun v => v) :=
  ⟨fun _ _ => Nat.le_refl _, fun i j hi hj e => absurd e (hE i j hi hj), fun _ _ _ _ => rfl⟩

def joined (L : Nat → Nat) (i j : Nat) (v : Nat) : Nat := if L v = max (L i) (L j) then min (L i) (L j) else L v
theorem good_join {n : Nat} {E : Nat → Nat → Prop} {L : Nat → Nat} (h : Good n E L) {i j : Nat} (hi : i < j) (hj : j < n) : Good n (fun a b => E a b ∨ (a = i ∧ b = j)) (joined L i j) := by
  have hin : i < n := by omega
  refine ⟨fun v hv => ?_, fun a b hab hb e => ?_, fun f hf v hv => ?_⟩
  · have := h.le v hv
    unfold joined
    split
    · rename_i e
      have : min (L i) (L j) ≤ max (L i) (L j) := by omega
      omega
    · exact this
  · unfold joined
    rcases e with e | ⟨rfl, rfl⟩
    · rw [h.edge a b hab hb e]
    · by_cases h1 : L a ≤ L b
      · rw [Nat.max_eq_right h1, Nat.min_eq_left h1]
        by_cases h2 : L a = L b
        · rw [h2]
        · rw [if_neg h2, if_pos rfl]
      · rw [Nat.max_eq_left (by omega), Nat.min_eq_right (by omega)]
        rw [if_pos rfl]
        by_cases h2 : L b = L a
        · rw [if_pos h2]
        · rw [if_neg h2]
  · have hk := h.keep f (fun a b ha hb e => hf a b ha hb (.inl e))
    have hij : f (L i) = f (L j) := by rw [hk i hin, hk j hj]; exact hf i j hi hj (.inr ⟨rfl, rfl⟩)
    unfold joined
    split
    · rename_i e
      rw [← hk v hv, e]
      by_cases h1 : L i ≤ L j
      · rw [Nat.max_eq_right h1, Nat.min_eq_left h1]; exact hij
      · rw [Nat.max_eq_left (by omega), Nat.min_eq_right (by omega)]; exact hij.symm
    · exact hk v hv
theorem Good.congr {n : Nat} {E E' : Nat → Nat → Prop} {L : Nat → Nat} (h : Good n E L) (hE : ∀ i j, i < j → j < n → (E' i j ↔ E i j)) : Good n E' L :=
  ⟨h.le, fun i j hi hj e => h.edge i j hi hj ((hE i j hi hj).1 e), fun f hf v hv => h.keep f (fun i j hi hj e => hf i j hi hj ((hE i j hi hj).2 e)) v hv⟩
theorem Good.ext {n : Nat} {E : Nat → Nat → Prop} {L L' : Nat → Nat} (h : Good n E L) (e : ∀ v, v < n → L' v = L v) : Good n E L' :=
  ⟨fun v hv => by rw [e v hv]; exact h.le v hv, fun i j hi hj he => by rw [e i (by omega), e j hj]; exact h.edge i j hi hj he, fun f hf v hv => by rw [e v hv]; exact h.keep f hf v hv⟩

/-- how many of the first n antennas are the least of their group -/
def roots (L : Nat → Nat) : Nat → Nat
  | 0 => 0
  | n + 1 => roots L n + if L n = n then 1 else 0
theorem roots_le (L : Nat → Nat) (n : Nat) : roots L n ≤ n := by
  induction n with
  | zero => simp [roots]
  | succ n ih => simp only [roots]; split <;> omega
theorem roots_pos {L : Nat → Nat} (h : L 0 = 0) (n : Nat) : 1 ≤ roots L (n + 1) := by
  induction n with
  | zero => simp [roots, h]
  | succ n ih => rw [roots]; omega
theorem roots_congr {L L' : Nat → Nat} {n : Nat} (h : ∀ v, v < n → L v = L' v) : roots L n = roots L' n := by
  induction n with
  | zero => rfl
  | succ n ih => simp only [roots]; rw [ih (fun v hv => h v (by omega)), h n (by omega)]
theorem roots_mono {L L' : Nat → Nat} {n : Nat} (h : ∀ v, v < n → L v = v → L' v = v) : roots L n ≤ roots L' n := by
  induction n with
  | zero => simp [roots]
  | succ n ih =>
    have h1 := ih (fun v hv => h v (by omega))
    have h2 := h n (by omega)
    simp only [roots]
    split
    · rename_i e; rw [if_pos (h2 e)]; omega
    · split <;> omega
/-- all roots but one stay -/
theorem roots_but {L L' : Nat → Nat} {n o : Nat} (h : ∀ v, v < n → v ≠ o → L v = v → L' v = v) : roots L n ≤ roots L' n + if o < n then 1 else 0 := by
  induction n with
  | zero => simp [roots]
  | succ n ih =>
    have h1 := ih (fun v hv => h v (by omega))
    simp only [roots]
    by_cases ho : n = o
    · subst ho
      rw [if_neg (by omega)] at h1
      rw [if_pos (by omega : n < n + 1)]
      split <;> split <;> omega
    · have h2 := h n (by omega) ho
      by_cases hlt : o < n
      · rw [if_pos hlt] at h1
        rw [if_pos (by omega : o < n + 1)]
        split
        · rename_i e; rw [if_pos (h2 e)]; omega
        · split <;> omega
      · rw [if_neg hlt] at h1
        rw [if_neg (by omega : ¬ o < n + 1)]
        split
        · rename_i e; rw [if_pos (h2 e)]; omega
        · split <;> omega
/-- one root less if two groups are joined -/
theorem roots_less {L L' : Nat → Nat} {n o : Nat} (ho : o < n) (h0 : L o = o) (h0' : L' o ≠ o) (h : ∀ v, v < n → v ≠ o → (L v = v ↔ L' v = v)) : roots L n = roots L' n + 1 := by
  induction n with
  | zero => omega
  | succ n ih =>
    simp only [roots]
    by_cases hon : n = o
    · subst hon
      rw [if_pos h0, if_neg h0']
      have : roots L n = roots L' n := by
        apply Nat.le_antisymm
        · exact roots_mono (fun v hv e => (h v (by omega) (by omega)).1 e)
        · exact roots_mono (fun v hv e => (h v (by omega) (by omega)).2 e)
      omega
    · have h1 := ih (by omega) (fun v hv => h v (by omega))
      have h2 := h n (by omega) hon
      by_cases e : L n = n
      · rw [if_pos e, if_pos (h2.1 e)]; omega
      · rw [if_neg e, if_neg (fun e' => e (h2.2 e'))]; omega

/-- Joining two groups takes one root away, or none if they are one already. -/
theorem roots_joined {n : Nat} {E : Nat → Nat → Prop} {L : Nat → Nat} (h : Good n E L) {i j : Nat} (hi : i < j) (hj : j < n) : roots L n = roots (joined L i j) n + if L i = L j then 0 else 1 := by
  have hin : i < n := by omega
  by_cases e : L i = L j
  · rw [if_pos e]
    apply roots_congr
    intro v _
    unfold joined
    rw [e]
    simp
  · rw [if_neg e]
    have hmx : max (L i) (L j) < n := by have := h.lt hin; have := h.lt hj; omega
    have hroot : L (max (L i) (L j)) = max (L i) (L j) := by
      by_cases h1 : L i ≤ L j
      · rw [Nat.max_eq_right h1]; exact h.idem hj
      · rw [Nat.max_eq_left (by omega)]; exact h.idem hin
    refine roots_less hmx hroot ?_ (fun v hv hne => ?_)
    · unfold joined
      rw [hroot, if_pos rfl]
      omega
    · unfold joined
      by_cases h1 : L v = max (L i) (L j)
      · rw [if_pos h1]
        constructor
        · intro h2; omega
        · intro h2
          exfalso
          have hmn : L (min (L i) (L j)) = min (L i) (L j) := by
            by_cases h3 : L i ≤ L j
            · rw [Nat.min_eq_left h3]; exact h.idem hin
            · rw [Nat.min_eq_right (by omega)]; exact h.idem hj
          rw [h2] at hmn
          omega
      · rw [if_neg h1]

end Go.Proofs.Ytopneihamefohaa
