/-
  Plain mathematics of linked antennas: the labels after each baseline, the reference's rounds, loops. No program is walked here.
-/
import Derived.Test.YtopneihamefohaaFlagP
import Derived.Test.YtopneihamefohaaVisP
namespace Go.Proofs.Ytopneihamefohaa
set_option linter.unusedVariables false

theorem idx_eq {N i j k : Nat} (h7 : N ≤ 7) (hij : i < j) (hj : j < N) (h : idx N i j = k) : i = b1 N k ∧ j = b2 N k := by
  obtain ⟨_, h2, h3⟩ := idx_at h7 hij hj
  subst h
  exact ⟨h2.symm, h3.symm⟩

/-- the labels after the first k baselines -/
def labTo (N : Nat) (fl : List Bool) : Nat → Nat → Nat
  | 0 => fun v => v
  | k + 1 => if gb fl k = true then labTo N fl k else joined (labTo N fl k) (b1 N k) (b2 N k)
def EdTo (N : Nat) (fl : List Bool) (k i j : Nat) : Prop := idx N i j < k ∧ gb fl (idx N i j) = false
def Ed (N : Nat) (fl : List Bool) (i j : Nat) : Prop := gb fl (idx N i j) = false
def lab (N : Nat) (fl : List Bool) : Nat → Nat := labTo N fl (nb N)
theorem labTo_bad {N k : Nat} {fl : List Bool} (h : gb fl k = true) : labTo N fl (k + 1) = labTo N fl k := by simp [labTo, h]
theorem labTo_good {N k : Nat} {fl : List Bool} (h : gb fl k = false) : labTo N fl (k + 1) = joined (labTo N fl k) (b1 N k) (b2 N k) := by simp [labTo, h]

theorem good_labTo {N : Nat} (h7 : N ≤ 7) (fl : List Bool) : ∀ k, k ≤ nb N → Good N (EdTo N fl k) (labTo N fl k)
  | 0, _ => good_none N (fun i j _ _ h => absurd h.1 (by omega))
  | k + 1, hk => by
    have ih := good_labTo h7 fl k (by omega)
    obtain ⟨h1, h2, h3⟩ := bs_at h7 (show k < nb N by omega)
    cases hg : gb fl k with
    | true =>
      rw [labTo_bad hg]
      refine ih.congr fun i j hi hj => ⟨fun h => ⟨?_, h.2⟩, fun h => ⟨by have := h.1; omega, h.2⟩⟩
      have := h.1
      have hne : idx N i j ≠ k := fun e => by have := h.2; rw [e, hg] at this; cases this
      omega
    | false =>
      rw [labTo_good hg]
      refine (good_join ih h1 h2).congr fun i j hi hj => ⟨fun h => ?_, fun h => ?_⟩
      · by_cases e : idx N i j = k
        · exact .inr (idx_eq h7 hi hj e)
        · exact .inl ⟨by have := h.1; omega, h.2⟩
      · rcases h with h | ⟨rfl, rfl⟩
        · exact ⟨by have := h.1; omega, h.2⟩
        · exact ⟨by omega, by rw [h3]; exact hg⟩
theorem good_lab {N : Nat} (h7 : N ≤ 7) (fl : List Bool) : Good N (Ed N fl) (lab N fl) :=
  (good_labTo h7 fl (nb N) (Nat.le_refl _)).congr fun i j hi hj => ⟨fun h => ⟨(idx_at h7 hi hj).1, h⟩, fun h => h.2⟩

/- the reference's rounds -/
structure Lab (N : Nat) (E : Nat → Nat → Prop) (L : Nat → Nat) : Prop where
  le : ∀ v, v < N → L v ≤ v
  keep : ∀ f : Nat → Nat, (∀ i j, i < j → j < N → E i j → f i = f j) → ∀ v, v < N → f (L v) = f v
theorem Lab.id (N : Nat) (E : Nat → Nat → Prop) : Lab N E (fun v => v) := ⟨fun _ _ => Nat.le_refl _, fun _ _ _ _ => rfl⟩
theorem Lab.ge {N : Nat} {E : Nat → Nat → Prop} {L M : Nat → Nat} (h : Lab N E L) (g : Good N E M) {v : Nat} (hv : v < N) : M v ≤ L v := by
  have h1 := h.keep M g.edge v hv
  have h2 := g.le (L v) (Nat.lt_of_le_of_lt (h.le v hv) hv)
  omega
def low (L : Nat → Nat) (i j v : Nat) : Nat := if v = i ∨ v = j then min (L i) (L j) else L v
theorem low_le (L : Nat → Nat) (i j v : Nat) : low L i j v ≤ L v := by
  unfold low
  split
  · rename_i h
    rcases h with rfl | rfl <;> omega
  · exact Nat.le_refl _
theorem Lab.low {N : Nat} {E : Nat → Nat → Prop} {L : Nat → Nat} (h : Lab N E L) {i j : Nat} (hi : i < j) (hj : j < N) (he : E i j) : Lab N E (low L i j) := by
  refine ⟨fun v hv => Nat.le_trans (low_le L i j v) (h.le v hv), fun f hf v hv => ?_⟩
  have k1 := h.keep f hf i (by omega)
  have k2 := h.keep f hf j hj
  have k3 := hf i j hi hj he
  have hm : f (min (L i) (L j)) = f i := by
    by_cases h1 : L i ≤ L j
    · rw [Nat.min_eq_left h1]; exact k1
    · rw [Nat.min_eq_right (by omega), k2, k3]
  unfold Go.Proofs.Ytopneihamefohaa.low
  split
  · rename_i h
    rw [hm]
    rcases h with rfl | rfl
    · rfl
    · exact k3
  · exact h.keep f hf v hv

/-- a round of the reference, at the baseline k -/
structure Swp (N : Nat) (fl : List Bool) (L0 L : Nat → Nat) (k : Nat) : Prop where
  lab : Lab N (Ed N fl) L
  down : ∀ v, v < N → L v ≤ L0 v
  past : ∀ a b, a < b → b < N → idx N a b < k → Ed N fl a b → L a ≤ L0 b ∧ L b ≤ L0 a
theorem Swp.start {N : Nat} {fl : List Bool} {L : Nat → Nat} (h : Lab N (Ed N fl) L) : Swp N fl L L 0 := ⟨h, fun _ _ => Nat.le_refl _, fun _ _ _ _ h => absurd h (by omega)⟩
theorem Swp.skip {N : Nat} {fl : List Bool} {L0 L : Nat → Nat} {k : Nat} (h : Swp N fl L0 L k) (hg : gb fl k = true) : Swp N fl L0 L (k + 1) :=
  ⟨h.lab, h.down, fun a b ha hb hk he => h.past a b ha hb (by
    have hne : idx N a b ≠ k := fun e => by unfold Ed at he; rw [e, hg] at he; cases he
    omega) he⟩
theorem Swp.step {N : Nat} {fl : List Bool} {L0 L : Nat → Nat} {k i j : Nat} (h7 : N ≤ 7) (h : Swp N fl L0 L k) (hi : i < j) (hj : j < N) (hk : idx N i j = k) (hg : gb fl k = false) : Swp N fl L0 (low L i j) (k + 1) := by
  have he : Ed N fl i j := by unfold Ed; rw [hk]; exact hg
  refine ⟨h.lab.low hi hj he, fun v hv => Nat.le_trans (low_le L i j v) (h.down v hv), fun a b ha hb hk2 hed => ?_⟩
  by_cases e : idx N a b = k
  · obtain ⟨e1, e2⟩ := idx_eq h7 ha hb e
    obtain ⟨e3, e4⟩ := idx_eq h7 hi hj hk
    have d1 := h.down i (by omega)
    have d2 := h.down j hj
    rw [← e3] at e1
    rw [← e4] at e2
    subst e1 e2
    have x1 : low L a b a = min (L a) (L b) := by simp [low]
    have x2 : low L a b b = min (L a) (L b) := by simp [low]
    rw [x1, x2]
    omega
  · have p := h.past a b ha hb (by omega) hed
    have q1 := low_le L i j a
    have q2 := low_le L i j b
    omega

/-- how many of the first n have the label of M -/
def cnt (M L : Nat → Nat) : Nat → Nat
  | 0 => 0
  | n + 1 => cnt M L n + if L n = M n then 1 else 0
theorem cnt_le (M L : Nat → Nat) (n : Nat) : cnt M L n ≤ n := by
  induction n with
  | zero => simp [cnt]
  | succ n ih => simp only [cnt]; split <;> omega
theorem cnt_all {M L : Nat → Nat} {n : Nat} (h : ∀ v, v < n → L v = M v) : cnt M L n = n := by
  induction n with
  | zero => rfl
  | succ n ih => simp only [cnt]; rw [ih (fun v hv => h v (by omega)), if_pos (h n (by omega))]
theorem cnt_full {M L : Nat → Nat} {n : Nat} (h : n ≤ cnt M L n) : ∀ v, v < n → L v = M v := by
  induction n with
  | zero => intro v hv; omega
  | succ n ih =>
    simp only [cnt] at h
    have := cnt_le M L n
    intro v hv
    split at h
    · rename_i e
      by_cases hvn : v = n
      · rw [hvn]; exact e
      · exact ih (by omega) v (by omega)
    · omega
theorem cnt_mono {M L L' : Nat → Nat} {n : Nat} (h : ∀ v, v < n → L v = M v → L' v = M v) : cnt M L n ≤ cnt M L' n := by
  induction n with
  | zero => simp [cnt]
  | succ n ih =>
    have h1 := ih (fun v hv => h v (by omega))
    have h2 := h n (by omega)
    simp only [cnt]
    split
    · rename_i e; rw [if_pos (h2 e)]; omega
    · split <;> omega
theorem cnt_more {M L L' : Nat → Nat} {n o : Nat} (h : ∀ v, v < n → L v = M v → L' v = M v) (ho : o < n) (h0 : L o ≠ M o) (h1 : L' o = M o) : cnt M L n + 1 ≤ cnt M L' n := by
  induction n with
  | zero => omega
  | succ n ih =>
    simp only [cnt]
    by_cases hon : o = n
    · subst hon
      have := cnt_mono (n := o) (fun v hv => h v (by omega))
      rw [if_neg h0, if_pos h1]
      omega
    · have h3 := ih (fun v hv => h v (by omega)) (by omega)
      have h2 := h n (by omega)
      split
      · rename_i e; rw [if_pos (h2 e)]; omega
      · split <;> omega
theorem cnt_one {M : Nat → Nat} {n : Nat} (h : M 0 = 0) (hn : 1 ≤ n) : 1 ≤ cnt M (fun v => v) n := by
  induction n with
  | zero => omega
  | succ n ih =>
    simp only [cnt]
    by_cases h0 : n = 0
    · subst h0; rw [if_pos h.symm]; omega
    · have := ih (by omega); omega

/-- each round gives one more antenna its label -/
theorem Swp.more {N : Nat} {fl : List Bool} {L0 L M : Nat → Nat} (h7 : N ≤ 7) (h : Swp N fl L0 L (nb N)) (l0 : Lab N (Ed N fl) L0) (g : Good N (Ed N fl) M) {r : Nat} (hr : min (r + 1) N ≤ cnt M L0 N) : min (r + 2) N ≤ cnt M L N := by
  have hst : ∀ v, v < N → L0 v = M v → L v = M v := fun v hv e => by
    have := h.down v hv
    have := h.lab.ge g hv
    omega
  by_cases hall : ∀ v, v < N → L0 v = M v
  · rw [cnt_all (fun v hv => hst v hv (hall v hv))]
    omega
  · obtain ⟨v, hv⟩ := Classical.not_forall.1 hall
    obtain ⟨hvN, hne⟩ := Classical.not_imp.1 hv
    have hroot : L0 (M v) = M (M v) := by
      have h1 := l0.le (M v) (g.lt hvN)
      have h2 := l0.ge g (g.lt hvN)
      have h3 := g.idem hvN
      omega
    have hex : ∃ a b, a < b ∧ b < N ∧ Ed N fl a b ∧ ((L0 a = M a ∧ L0 b ≠ M b) ∨ (L0 b = M b ∧ L0 a ≠ M a)) := by
      apply Classical.byContradiction
      intro hno
      have hf : ∀ i j, i < j → j < N → Ed N fl i j → (if L0 i = M i then 1 else 0) = (if L0 j = M j then 1 else 0) := fun i j hi hj he => by
        by_cases x : L0 i = M i <;> by_cases y : L0 j = M j
        · rw [if_pos x, if_pos y]
        · exact absurd ⟨i, j, hi, hj, he, .inl ⟨x, y⟩⟩ hno
        · exact absurd ⟨i, j, hi, hj, he, .inr ⟨y, x⟩⟩ hno
        · rw [if_neg x, if_neg y]
      have := g.keep (fun w => if L0 w = M w then 1 else 0) hf v hvN
      rw [if_pos hroot, if_neg hne] at this
      omega
    obtain ⟨a, b, hab, hb, he, hc⟩ := hex
    obtain ⟨p1, p2⟩ := h.past a b hab hb (idx_at h7 hab hb).1 he
    have eM := g.edge a b hab hb he
    rcases hc with ⟨x, y⟩ | ⟨x, y⟩
    · have := h.lab.ge g hb
      have := cnt_more hst hb y (by omega)
      omega
    · have := h.lab.ge g (show a < N by omega)
      have := cnt_more hst (show a < N by omega) y (by omega)
      omega

/-- after r rounds -/
def Rnds (N : Nat) (fl : List Bool) (L : Nat → Nat) (r : Nat) : Prop := Lab N (Ed N fl) L ∧ min (r + 1) N ≤ cnt (lab N fl) L N
theorem Rnds.start {N : Nat} (fl : List Bool) (h2 : 2 ≤ N) (h7 : N ≤ 7) : Rnds N fl (fun v => v) 0 := by
  have h0 : lab N fl 0 = 0 := by have := (good_lab h7 fl).le 0 (by omega); omega
  exact ⟨Lab.id _ _, by have := cnt_one (n := N) h0 (by omega); omega⟩
theorem Rnds.next {N : Nat} {fl : List Bool} {L0 L : Nat → Nat} {r : Nat} (h7 : N ≤ 7) (h : Rnds N fl L0 r) (s : Swp N fl L0 L (nb N)) : Rnds N fl L (r + 1) := ⟨s.lab, s.more h7 h.1 (good_lab h7 fl) h.2⟩
theorem Rnds.done {N : Nat} {fl : List Bool} {L : Nat → Nat} (h : Rnds N fl L N) : ∀ v, v < N → L v = lab N fl v := cnt_full (by have := h.2; omega)

/-- the labels as a list -/
def natL (N : Nat) (L : Nat → Nat) : List Int := (List.range N).map fun v => ((L v : Nat) : Int)
@[simp] theorem natL_length (N : Nat) (L : Nat → Nat) : (natL N L).length = N := by simp [natL]
theorem gi_natL {N v : Nat} (L : Nat → Nat) (h : v < N) : gi (natL N L) v = ((L v : Nat) : Int) := by simp [natL, gi, h]
theorem natL_congr {N : Nat} {L L' : Nat → Nat} (h : ∀ v, v < N → L v = L' v) : natL N L = natL N L' :=
  List.map_congr_left fun v hv => by rw [h v (by simpa using hv)]
theorem natL_set {N k : Nat} {L L' : Nat → Nat} {z : Int} (hk : k < N) (hz : z = ((L' k : Nat) : Int)) (h : ∀ v, v < N → v ≠ k → L' v = L v) : (natL N L).set k z = natL N L' := by
  apply List.ext_getElem (by simp)
  intro i h1 h2
  simp only [natL_length] at h2
  rw [List.getElem_set]
  split
  · rename_i e; subst e; simp [natL, hz]
  · rename_i e; simp [natL, h i h2 (by omega)]
def flB (n : Int) (fl : List Bool) : Bool := manyB n && decide ((fl.length : Int) = bm n)
def linkL (n : Int) (fl : List Bool) : List Int := if flB n fl = true then natL n.toNat (lab n.toNat fl) else []
theorem flB_ok {n : Int} {fl : List Bool} (h : flB n fl = true) : ∃ N : Nat, n = (N : Int) ∧ 2 ≤ N ∧ N ≤ 7 ∧ fl.length = nb N := by
  simp only [flB, Bool.and_eq_true, decide_eq_true_eq] at h
  obtain ⟨N, rfl, h2, h7⟩ := many_nat h.1
  refine ⟨N, rfl, h2, h7, ?_⟩
  have := h.2
  rw [bm_nat h2 h7] at this
  omega
theorem flB_mk {N : Nat} {fl : List Bool} (h2 : 2 ≤ N) (h7 : N ≤ 7) (h : fl.length = nb N) : flB (N : Int) fl = true := by
  simp [flB, manyB_mk h2 h7, bm_nat h2 h7, h]
theorem linkL_mk {N : Nat} {fl : List Bool} (h : flB (N : Int) fl = true) : linkL (N : Int) fl = natL N (lab N fl) := by simp [linkL, h]
theorem linkL_no {n : Int} {fl : List Bool} (h : flB n fl = false) : linkL n fl = [] := by simp [linkL, h]
theorem linkL_len (n : Int) (fl : List Bool) : (linkL n fl).length ≤ 1048592 := by
  cases h : flB n fl with
  | false => rw [linkL_no h]; simp
  | true =>
    obtain ⟨N, rfl, _, h7, _⟩ := flB_ok h
    rw [linkL_mk h]; simp; omega

/- loops -/
/-- how many of the first k baselines are not bad -/
def gd (fl : List Bool) : Nat → Nat
  | 0 => 0
  | k + 1 => gd fl k + if gb fl k = true then 0 else 1
/-- how many of them close a loop -/
def cyc (N : Nat) (fl : List Bool) : Nat → Nat
  | 0 => 0
  | k + 1 => cyc N fl k + if gb fl k = false ∧ labTo N fl k (b1 N k) = labTo N fl k (b2 N k) then 1 else 0
theorem roots_id (n : Nat) : roots (fun v => v) n = n := by
  induction n with
  | zero => rfl
  | succ n ih => simp [roots, ih]
theorem cyc_eq {N : Nat} (h7 : N ≤ 7) (fl : List Bool) : ∀ k, k ≤ nb N → gd fl k + roots (labTo N fl k) N = N + cyc N fl k
  | 0, _ => by simp [gd, cyc, labTo, roots_id]
  | k + 1, hk => by
    have ih := cyc_eq h7 fl k (by omega)
    obtain ⟨h1, h2, h3⟩ := bs_at h7 (show k < nb N by omega)
    have g := good_labTo h7 fl k (by omega)
    cases hg : gb fl k with
    | true => rw [labTo_bad hg]; simp [gd, cyc, hg]; exact ih
    | false =>
      have hj := roots_joined g h1 h2
      rw [labTo_good hg]
      simp only [gd, cyc, hg]
      by_cases e : labTo N fl k (b1 N k) = labTo N fl k (b2 N k)
      · rw [if_pos e] at hj
        simp only [e, and_self, if_true]
        simp only [Bool.false_eq_true, if_false]
        omega
      · rw [if_neg e] at hj
        simp only [e, and_false, if_false]
        simp only [Bool.false_eq_true, if_false]
        omega
theorem cyc_le {N : Nat} (h7 : N ≤ 7) (fl gl : List Bool) (hgl : ∀ j, gb gl j = false) : ∀ k, k ≤ nb N → cyc N fl k ≤ cyc N gl k
  | 0, _ => Nat.le_refl _
  | k + 1, hk => by
    have ih := cyc_le h7 fl gl hgl k (by omega)
    obtain ⟨h1, h2, h3⟩ := bs_at h7 (show k < nb N by omega)
    have gf := good_labTo h7 fl k (by omega)
    have gg := good_labTo h7 gl k (by omega)
    simp only [cyc]
    split
    · rename_i hc
      have hres : ∀ i j, i < j → j < N → EdTo N fl k i j → labTo N gl k i = labTo N gl k j := fun i j hi hj he => gg.edge i j hi hj ⟨he.1, hgl _⟩
      have e1 := gf.keep _ hres (b1 N k) (by omega)
      have e2 := gf.keep _ hres (b2 N k) h2
      rw [if_pos ⟨hgl k, by rw [← e1, ← e2, hc.2]⟩]
      omega
    · omega
theorem gd_le (fl : List Bool) (k : Nat) : gd fl k ≤ k := by
  induction k with
  | zero => simp [gd]
  | succ k ih => simp only [gd]; split <;> omega
theorem gd_none {fl : List Bool} (h : ∀ j, gb fl j = false) (k : Nat) : gd fl k = k := by
  induction k with
  | zero => rfl
  | succ k ih => simp [gd, h k, ih]
theorem lab_none {N : Nat} (h7 : N ≤ 7) {fl : List Bool} (h : ∀ j, gb fl j = false) {v : Nat} (hv : v < N) : lab N fl v = 0 := by
  have g := good_lab h7 fl
  have h0 := g.le 0 (by omega)
  by_cases e : v = 0
  · subst e; omega
  · have := g.edge 0 v (by omega) hv (h _)
    omega
theorem lab_all {N : Nat} {fl : List Bool} (h : ∀ j, j < nb N → gb fl j = true) : lab N fl = fun v => v := by
  have : ∀ k, k ≤ nb N → labTo N fl k = fun v => v := fun k => by
    induction k with
    | zero => intro _; rfl
    | succ k ih => intro hk; rw [labTo_bad (h k (by omega))]; exact ih (by omega)
  exact this _ (Nat.le_refl _)
theorem roots_zero {L : Nat → Nat} {n : Nat} (h : ∀ v, v < n → L v = 0) (hn : 1 ≤ n) : roots L n = 1 := by
  induction n with
  | zero => omega
  | succ n ih =>
    simp only [roots]
    by_cases h0 : n = 0
    · subst h0; simp [roots, h 0 (by omega)]
    · rw [ih (fun v hv => h v (by omega)) (by omega), h n (by omega), if_neg (by omega)]
/-- a loop needs three baselines -/
theorem labTo_zero {N : Nat} {fl : List Bool} : ∀ k, gd fl k = 0 → labTo N fl k = fun v => v
  | 0, _ => rfl
  | k + 1, h => by
    simp only [gd] at h
    cases hg : gb fl k with
    | true => rw [labTo_bad hg]; exact labTo_zero k (by omega)
    | false => rw [hg] at h; simp at h
theorem labTo_one {N : Nat} (h7 : N ≤ 7) {fl : List Bool} : ∀ k, k ≤ nb N → gd fl k = 1 → ∃ a b, a < b ∧ b < N ∧ idx N a b < k ∧ ∀ v, labTo N fl k v = if v = b then a else v
  | 0, _, h => by simp [gd] at h
  | k + 1, hk, h => by
    simp only [gd] at h
    obtain ⟨h1, h2, h3⟩ := bs_at h7 (show k < nb N by omega)
    cases hg : gb fl k with
    | true =>
      rw [labTo_bad hg]
      rw [hg, if_pos rfl] at h
      obtain ⟨a, b, x, y, z, t⟩ := labTo_one h7 k (by omega) (by omega)
      exact ⟨a, b, x, y, by omega, t⟩
    | false =>
      rw [hg] at h
      simp only [Bool.false_eq_true, if_false] at h
      rw [labTo_good hg, labTo_zero k (by omega)]
      refine ⟨b1 N k, b2 N k, h1, h2, by omega, fun v => ?_⟩
      unfold joined
      simp only []
      rw [Nat.max_eq_right (by omega), Nat.min_eq_left (by omega)]
theorem cyc_few {N : Nat} (h7 : N ≤ 7) {fl : List Bool} : ∀ k, k ≤ nb N → gd fl k ≤ 2 → cyc N fl k = 0
  | 0, _, _ => rfl
  | k + 1, hk, h => by
    obtain ⟨h1, h2, h3⟩ := bs_at h7 (show k < nb N by omega)
    have hle : gd fl k ≤ gd fl (k + 1) := by simp only [gd]; omega
    have ih := cyc_few (fl := fl) h7 k (by omega) (by omega)
    simp only [cyc]
    rw [ih]
    cases hg : gb fl k with
    | true => simp
    | false =>
      simp only [gd, hg] at h
      simp only [Bool.false_eq_true, if_false] at h
      have hne : labTo N fl k (b1 N k) ≠ labTo N fl k (b2 N k) := by
        by_cases h0 : gd fl k = 0
        · rw [labTo_zero k h0]; simp only []; omega
        · obtain ⟨a, b, x, y, z, t⟩ := labTo_one (fl := fl) h7 k (by omega) (by omega)
          rw [t, t]
          intro e
          by_cases e1 : b1 N k = b
          · rw [if_pos e1, if_neg (by omega)] at e
            omega
          · rw [if_neg e1] at e
            by_cases e2 : b2 N k = b
            · rw [if_pos e2] at e
              rw [← e, ← e2, h3] at z
              omega
            · rw [if_neg e2] at e
              omega
      rw [if_neg (fun h => hne h.2)]
def flagLoops (n : Int) (fl : List Bool) : Int := if flB n fl = true then (gd fl fl.length : Int) - n + (roots (lab n.toNat fl) n.toNat : Int) else -1
theorem loops_mk {N : Nat} {fl : List Bool} (h : flB (N : Int) fl = true) : flagLoops (N : Int) fl = (gd fl fl.length : Int) - (N : Int) + (roots (lab N fl) N : Int) := by simp [flagLoops, h]
theorem loops_no {n : Int} {fl : List Bool} (h : flB n fl = false) : flagLoops n fl = -1 := by simp [flagLoops, h]
theorem loops_cyc {N : Nat} {fl : List Bool} (h : flB (N : Int) fl = true) : flagLoops (N : Int) fl = (cyc N fl (nb N) : Int) ∧ (gd fl (nb N) : Int) - (N : Int) + (roots (lab N fl) N : Int) = (cyc N fl (nb N) : Int) ∧ 1 ≤ roots (lab N fl) N ∧ roots (lab N fl) N ≤ N ∧ gd fl (nb N) ≤ 21 ∧ fl.length = nb N ∧ 2 ≤ N ∧ N ≤ 7 := by
  obtain ⟨M, e, h2, h7, hl⟩ := flB_ok h
  obtain rfl : N = M := by omega
  have hc := cyc_eq h7 fl (nb N) (Nat.le_refl _)
  have h0 : lab N fl 0 = 0 := by have := (good_lab h7 fl).le 0 (by omega); omega
  obtain ⟨K, rfl⟩ : ∃ K, N = K + 1 := ⟨N - 1, by omega⟩
  have hr := roots_pos h0 K
  have hr2 := roots_le (lab (K + 1) fl) (K + 1)
  have hg := gd_le fl (nb (K + 1))
  have hb := nb_le h7
  rw [loops_mk h, hl]
  unfold lab at *
  exact ⟨by omega, by omega, hr, hr2, by omega, rfl, h2, h7⟩
theorem loops_bd (n : Int) (fl : List Bool) : -1 ≤ flagLoops n fl ∧ flagLoops n fl ≤ 21 := by
  cases h : flB n fl with
  | false => rw [loops_no h]; omega
  | true =>
    obtain ⟨N, rfl, _, _, _⟩ := flB_ok h
    have := loops_cyc h
    omega
theorem gb_set {fl : List Bool} {k j : Nat} {z : Bool} (hk : k < fl.length) : gb (fl.set k z) j = if j = k then z else gb fl j := by
  unfold gb
  by_cases e : j = k
  · subst e; simp [hk]
  · rw [if_neg e]; simp [List.getD_eq_getElem?_getD, Ne.symm e]
theorem gd_set {fl : List Bool} {k : Nat} (hk : k < fl.length) (hg : gb fl k = false) : ∀ m, gd (fl.set k true) m + (if k < m then 1 else 0) = gd fl m
  | 0 => by simp [gd]
  | m + 1 => by
    have ih := gd_set hk hg m
    simp only [gd]
    rw [gb_set hk]
    by_cases e : m = k
    · subst e
      rw [if_neg (Nat.lt_irrefl m)] at ih
      simp [hg]
      omega
    · rw [if_neg e]
      by_cases hlt : k < m
      · rw [if_pos hlt] at ih
        rw [if_pos (show k < m + 1 by omega)]
        omega
      · rw [if_neg hlt] at ih
        rw [if_neg (show ¬ k < m + 1 by omega)]
        omega
theorem set_same {fl : List Bool} {k : Nat} (hk : k < fl.length) (hg : gb fl k = true) : fl.set k true = fl := by
  apply List.ext_getElem (by simp)
  intro i h1 h2
  rw [List.getElem_set]
  split
  · rename_i e; subst e; simpa [gb, hk] using hg.symm
  · rfl
/-- one more bad baseline takes one loop away, or none -/
theorem loops_less {N k : Nat} {fl : List Bool} (h : flB (N : Int) fl = true) (hk : k < nb N) : flB (N : Int) (fl.set k true) = true ∧ (flagLoops (N : Int) fl - flagLoops (N : Int) (fl.set k true) = 0 ∨ (flagLoops (N : Int) fl - flagLoops (N : Int) (fl.set k true) = 1 ∧ gb fl k = false)) := by
  obtain ⟨M, e, h2, h7, hl⟩ := flB_ok h
  obtain rfl : N = M := by omega
  have h' : flB (N : Int) (fl.set k true) = true := flB_mk h2 h7 (by simpa using hl)
  refine ⟨h', ?_⟩
  have hk' : k < fl.length := by omega
  cases hg : gb fl k with
  | true => rw [set_same hk' hg]; left; omega
  | false =>
    obtain ⟨e1, _⟩ := loops_cyc h
    obtain ⟨i1, i2, i3⟩ := bs_at h7 hk
    have g1 := good_lab h7 (fl.set k true)
    have hj := roots_joined g1 i1 i2
    have hu : roots (lab N fl) N = roots (joined (lab N (fl.set k true)) (b1 N k) (b2 N k)) N := by
      refine roots_congr fun v hv => (good_lab h7 fl).unique ((good_join g1 i1 i2).congr fun i j hi hj => ?_) hv
      unfold Ed
      rw [gb_set hk']
      constructor
      · intro he
        by_cases e : idx N i j = k
        · exact .inr (idx_eq h7 hi hj e)
        · left; rw [if_neg e]; exact he
      · rintro (he | ⟨rfl, rfl⟩)
        · split at he
          · cases he
          · exact he
        · rw [i3]; exact hg
    have hgd := gd_set hk' hg (nb N)
    rw [if_pos hk] at hgd
    rw [loops_mk h, loops_mk h', hu, List.length_set, hl]
    split at hj
    · right; exact ⟨by omega, rfl⟩
    · left; omega
theorem gb_rep (m j : Nat) : gb (List.replicate m false) j = false := by
  unfold gb
  rw [List.getD_eq_getElem?_getD, List.getElem?_replicate]
  split <;> rfl
theorem gb_rep_true {m j : Nat} (h : j < m) : gb (List.replicate m true) j = true := by
  unfold gb
  rw [List.getD_eq_getElem?_getD, List.getElem?_replicate, if_pos h]
  rfl
def cm' (n : Int) : Int := if inB n 3 7 then (n - 1) * (n - 2) / 2 else 0
theorem cm_none : ∀ N : Fin 8, 2 ≤ N.1 → (nb N.1 : Int) - (N.1 : Int) + 1 = cm' (N.1 : Int) := by decide +kernel
theorem loops_none {N : Nat} (h2 : 2 ≤ N) (h7 : N ≤ 7) : flB (N : Int) (List.replicate (nb N) false) = true ∧ flagLoops (N : Int) (List.replicate (nb N) false) = cm' (N : Int) := by
  have h : flB (N : Int) (List.replicate (nb N) false) = true := flB_mk h2 h7 (by simp)
  refine ⟨h, ?_⟩
  rw [loops_mk h, List.length_replicate, gd_none (gb_rep _), roots_zero (fun v hv => lab_none h7 (gb_rep _) hv) (by omega), ← cm_none ⟨N, by omega⟩ h2]
  simp
theorem loops_max {N : Nat} {fl : List Bool} (h : flB (N : Int) fl = true) : flagLoops (N : Int) fl ≤ cm' (N : Int) := by
  obtain ⟨e1, _, _, _, _, _, h2, h7⟩ := loops_cyc h
  obtain ⟨hn, en⟩ := loops_none h2 h7
  have := cyc_le h7 fl (List.replicate (nb N) false) (gb_rep _) (nb N) (Nat.le_refl _)
  rw [← en, e1, (loops_cyc hn).1]
  omega
theorem loops_groups {N : Nat} {fl : List Bool} (h : flB (N : Int) fl = true) : (2 < gd fl (nb N) ∨ flagLoops (N : Int) fl = 0) ∧ (gd fl (nb N) : Int) - ((N : Int) - 1) ≤ flagLoops (N : Int) fl ∧ flagLoops (N : Int) fl ≤ (gd fl (nb N) : Int) := by
  obtain ⟨e1, e2, r1, r2, _, _, h2, h7⟩ := loops_cyc h
  refine ⟨?_, by omega, by omega⟩
  by_cases hg : gd fl (nb N) ≤ 2
  · right; rw [e1, cyc_few h7 _ (Nat.le_refl _) hg]; rfl
  · left; omega
/-- what linked antennas are like -/
theorem link_laws {N : Nat} {fl : List Bool} (h7 : N ≤ 7) : (∀ i, i < N → lab N fl i ≤ i ∧ lab N fl i < N ∧ lab N fl (lab N fl i) = lab N fl i) ∧ ∀ i j, i < j → j < N → gb fl (idx N i j) = false → lab N fl i = lab N fl j :=
  ⟨fun i hi => ⟨(good_lab h7 fl).le i hi, (good_lab h7 fl).lt hi, (good_lab h7 fl).idem hi⟩, (good_lab h7 fl).edge⟩
theorem link_less {N k : Nat} {fl : List Bool} (h7 : N ≤ 7) (hk : k < fl.length) {i : Nat} (hi : i < N) : lab N fl i ≤ lab N (fl.set k true) i :=
  (good_lab h7 fl).mono (good_lab h7 _) (fun a b ha hb e => by
    unfold Ed at *
    rw [gb_set hk] at e
    split at e
    · cases e
    · exact e) hi
end Go.Proofs.Ytopneihamefohaa
