/-
  Plain mathematics of skies: lists of 16 numbers, sums, shifts, folds. No program is walked here.
-/
import Derived.Test.YtopneihamefohaaMem
namespace Go.Proofs.Ytopneihamefohaa
set_option linter.unusedVariables false

def inB (n lo hi : Int) : Bool := decide (lo ≤ n) && decide (n ≤ hi)
theorem inB_true {n lo hi : Int} (h : inB n lo hi = true) : lo ≤ n ∧ n ≤ hi := by simpa [inB] using h
theorem inB_mk {n lo hi : Int} (h : lo ≤ n ∧ n ≤ hi) : inB n lo hi = true := by simpa [inB] using h
theorem inB_false {n lo hi : Int} (h : inB n lo hi = false) : ¬ (lo ≤ n ∧ n ≤ hi) := fun c => by rw [inB_mk c] at h; cases h

/-- all numbers lie within the limit -/
def allB (zs : List Int) (lim : Int) : Bool := zs.all fun z => inB z (-lim) lim
/-- a sky -/
def skyB (zs : List Int) : Bool := decide (zs.length = 16) && allB zs 100000

/-- the first k lie within the limit -/
def InTo (zs : List Int) (lim : Int) (k : Nat) : Prop := ∀ j, j < k → inB (gi zs j) (-lim) lim = true
theorem InTo.zero (zs : List Int) (lim : Int) : InTo zs lim 0 := fun j hj => absurd hj (by omega)
theorem InTo.step {zs : List Int} {lim : Int} {k : Nat} (h : InTo zs lim k) (e : inB (gi zs k) (-lim) lim = true) : InTo zs lim (k + 1) := fun j hj => by
  by_cases hjk : j = k
  · rw [hjk]; exact e
  · exact h j (by omega)
theorem gi_get {zs : List Int} {j : Nat} (h : j < zs.length) : gi zs j = zs[j] := by simp [gi, h]
theorem InTo.all {zs : List Int} {lim : Int} (h : InTo zs lim zs.length) : allB zs lim = true := by
  unfold allB
  rw [List.all_eq_true]
  intro z hz
  obtain ⟨j, hj, rfl⟩ := List.mem_iff_getElem.1 hz
  rw [← gi_get hj]
  exact h j hj
theorem allB_at {zs : List Int} {lim : Int} (h : allB zs lim = true) {j : Nat} (hj : j < zs.length) : inB (gi zs j) (-lim) lim = true := by
  unfold allB at h
  rw [List.all_eq_true] at h
  rw [gi_get hj]
  exact h _ (List.getElem_mem hj)
theorem allB_not {zs : List Int} {lim : Int} {j : Nat} (hj : j < zs.length) (h : inB (gi zs j) (-lim) lim = false) : allB zs lim = false := by
  cases hh : allB zs lim with
  | false => rfl
  | true => rw [allB_at hh hj] at h; cases h
theorem skyB_len {zs : List Int} (h : skyB zs = true) : zs.length = 16 := by simp [skyB] at h; exact h.1
theorem skyB_all {zs : List Int} (h : skyB zs = true) : allB zs 100000 = true := by simp [skyB] at h; exact h.2
theorem skyB_mk {zs : List Int} (h : zs.length = 16) (h2 : allB zs 100000 = true) : skyB zs = true := by simp [skyB, h, h2]
theorem skyB_bd {zs : List Int} (h : skyB zs = true) (j : Nat) : -100000 ≤ gi zs j ∧ gi zs j ≤ 100000 := by
  by_cases hj : j < zs.length
  · exact inB_true (allB_at (skyB_all h) hj)
  · have : gi zs j = 0 := by simp [gi, Nat.le_of_not_lt hj]
    omega
theorem skyB_of {zs : List Int} (h : zs.length = 16) (h2 : ∀ j, j < 16 → -100000 ≤ gi zs j ∧ gi zs j ≤ 100000) : skyB zs = true :=
  skyB_mk h (InTo.all fun j hj => inB_mk (h2 j (by omega)))

/-- f 0 + .. + f (n - 1) -/
def sm (f : Nat → Int) : Nat → Int
  | 0 => 0
  | n + 1 => sm f n + f n
theorem sm_none (f : Nat → Int) : sm f 0 = 0 := rfl
theorem sm_succ (f : Nat → Int) (n : Nat) : sm f (n + 1) = sm f n + f n := rfl
theorem sm_congr {f g : Nat → Int} {n : Nat} (h : ∀ j, j < n → f j = g j) : sm f n = sm g n := by
  induction n with
  | zero => rfl
  | succ n ih => simp only [sm]; rw [ih (fun j hj => h j (by omega)), h n (by omega)]
theorem sm_bd {f : Nat → Int} {B : Int} {n : Nat} (h : ∀ j, j < n → -B ≤ f j ∧ f j ≤ B) : -(n * B) ≤ sm f n ∧ sm f n ≤ n * B := by
  induction n with
  | zero => simp [sm]
  | succ n ih =>
    have h1 := ih (fun j hj => h j (by omega))
    have h2 := h n (by omega)
    simp only [sm]
    have e : ((n + 1 : Nat) : Int) * B = n * B + B := by rw [Int.natCast_add, Int.add_mul]; simp
    omega
theorem sm_add (f g : Nat → Int) (n : Nat) : sm (fun i => f i + g i) n = sm f n + sm g n := by
  induction n with
  | zero => rfl
  | succ n ih => simp only [sm, ih]; omega
theorem sm_mul (c : Int) (f : Nat → Int) (n : Nat) : sm (fun i => c * f i) n = c * sm f n := by
  induction n with
  | zero => simp [sm]
  | succ n ih => simp only [sm, ih, Int.mul_add]
theorem sm_mul' (c : Int) (f : Nat → Int) (n : Nat) : sm (fun i => f i * c) n = sm f n * c := by
  induction n with
  | zero => simp [sm]
  | succ n ih => simp only [sm, ih, Int.add_mul]
theorem sm_zero (n : Nat) : sm (fun _ => 0) n = 0 := by
  induction n with
  | zero => rfl
  | succ n ih => simp only [sm, ih]; rfl
theorem sm_comm (f : Nat → Nat → Int) (n m : Nat) : sm (fun i => sm (fun j => f i j) m) n = sm (fun j => sm (fun i => f i j) n) m := by
  induction n with
  | zero => simp only [sm]; exact (sm_zero m).symm
  | succ n ih => simp only [sm, ih]; rw [← sm_add]
/-- a sum over the places of one of them -/
theorem sm_single (c : Int) (k n : Nat) (h : k < n) : sm (fun i => if i = k then c else 0) n = c := by
  induction n with
  | zero => omega
  | succ n ih =>
    simp only [sm]
    by_cases hk : k = n
    · subst hk
      rw [sm_congr (g := fun _ => 0) (fun j hj => if_neg (by omega)), sm_zero]
      simp
    · rw [ih (by omega), if_neg (by omega)]
      omega

/-- places: x and y modulo 4 -/
def cel (x y : Int) : Nat := (4 * (y % 4) + x % 4).toNat
theorem cel_lt (x y : Int) : cel x y < 16 := by unfold cel; omega
/-- what lies j places from the place of the shift (a, b) -/
def plus (k l : Nat) : Nat := 4 * ((k / 4 + l / 4) % 4) + (k % 4 + l % 4) % 4
def opp (k : Nat) : Nat := 4 * ((4 - k / 4 % 4) % 4) + (4 - k % 4) % 4
theorem plus_lt (k l : Nat) : plus k l < 16 := by unfold plus; omega
theorem opp_lt (k : Nat) : opp k < 16 := by unfold opp; omega
theorem plus_comm (k l : Nat) : plus k l = plus l k := by unfold plus; omega
theorem plus_opp {k l : Nat} (h : k < 16) : plus (plus k l) (opp l) = k := by unfold plus opp; omega
theorem plus_opp' {k l : Nat} (h : k < 16) : plus (plus k (opp l)) l = k := by unfold plus opp; omega
theorem plus_assoc (k l m : Nat) : plus (plus k l) m = plus k (plus l m) := by unfold plus; omega
theorem plus_inj {k l m : Nat} (hk : k < 16) (hl : l < 16) (h : plus k m = plus l m) : k = l := by unfold plus at h; omega
theorem opp_opp {k : Nat} (h : k < 16) : opp (opp k) = k := by unfold opp; omega

/-- the shifted sky -/
def shf (s : List Int) (k : Nat) : List Int := (List.range 16).map fun i => gi s (plus i (opp k))
@[simp] theorem shf_length (s : List Int) (k : Nat) : (shf s k).length = 16 := by simp [shf]
theorem gi_range (f : Nat → Int) (n i : Nat) (h : i < n) : gi ((List.range n).map f) i = f i := by simp [gi, h]
theorem gi_shf (s : List Int) (k i : Nat) (h : i < 16) : gi (shf s k) i = gi s (plus i (opp k)) := gi_range _ _ _ h

/-- the first sky plus t times the second -/
def addT (a b : List Int) (t : Int) : List Int := (List.range a.length).map fun i => gi a i + t * gi b i
@[simp] theorem addT_length (a b : List Int) (t : Int) : (addT a b t).length = a.length := by simp [addT]
theorem gi_addT (a b : List Int) (t : Int) (i : Nat) (h : i < a.length) : gi (addT a b t) i = gi a i + t * gi b i := gi_range _ _ _ h

/-- the folded sky -/
def fol (a b : List Int) : List Int := (List.range 16).map fun i => sm (fun k => gi a k * gi b (plus i (opp k))) 16
@[simp] theorem fol_length (a b : List Int) : (fol a b).length = 16 := by simp [fol]
theorem gi_fol (a b : List Int) (i : Nat) (h : i < 16) : gi (fol a b) i = sm (fun k => gi a k * gi b (plus i (opp k))) 16 := gi_range _ _ _ h

/-- what the functions return -/
def skyAdd (a b : List Int) (t : Int) : List Int × Bool :=
  if skyB a && skyB b && inB t (-100000) 100000 && skyB (addT a b t) then (addT a b t, true) else ([], false)
def sideB (x : Int) : Bool := inB x 0 3
/-- the shift (a, b) as a place -/
def pl (a b : Int) : Nat := (4 * b + a).toNat
def skyShift (s : List Int) (a b : Int) : List Int × Bool :=
  if skyB s && sideB a && sideB b then (shf s (pl a b), true) else ([], false)
def skyFold (a b : List Int) : List Int × Bool :=
  if skyB a && skyB b && skyB (fol a b) then (fol a b, true) else ([], false)
def skySum (s : List Int) : Int × Bool := if skyB s then (sm (gi s) 16, true) else (0, false)

theorem skyAdd_len (a b : List Int) (t : Int) : (skyAdd a b t).1.length ≤ 1048592 := by
  unfold skyAdd
  split
  · rename_i h
    simp only [Bool.and_eq_true] at h
    have := skyB_len h.1.1.1
    simp [this]
  · simp
theorem skyShift_len (s : List Int) (a b : Int) : (skyShift s a b).1.length ≤ 1048592 := by
  unfold skyShift
  split <;> simp
theorem skyFold_len (a b : List Int) : (skyFold a b).1.length ≤ 1048592 := by
  unfold skyFold
  split <;> simp
theorem pl_lt {a b : Int} (ha : sideB a = true) (hb : sideB b = true) : pl a b < 16 := by
  have h1 := inB_true ha; have h2 := inB_true hb; unfold pl; omega
/-- where the place k goes under the shift (a, b) -/
theorem cel_pl {a b : Int} (ha : sideB a = true) (hb : sideB b = true) (k : Nat) (hk : k < 16) : cel ((k : Int) % 4 + a) ((k : Int) / 4 + b) = plus k (pl a b) := by
  have h1 := inB_true ha; have h2 := inB_true hb
  unfold cel pl plus
  omega

theorem mul_bd {x y B C : Int} (hx : -B ≤ x ∧ x ≤ B) (hy : -C ≤ y ∧ y ≤ C) : -(B * C) ≤ x * y ∧ x * y ≤ B * C := by
  obtain ⟨h1, h2⟩ := hx
  obtain ⟨h3, h4⟩ := hy
  have hB : 0 ≤ B := by omega
  have hC : 0 ≤ C := by omega
  have a1 := Int.mul_nonneg (show 0 ≤ B - x by omega) (show 0 ≤ C - y by omega)
  have a2 := Int.mul_nonneg (show 0 ≤ B + x by omega) (show 0 ≤ C + y by omega)
  have a3 := Int.mul_nonneg (show 0 ≤ B - x by omega) (show 0 ≤ C + y by omega)
  have a4 := Int.mul_nonneg (show 0 ≤ B + x by omega) (show 0 ≤ C - y by omega)
  simp only [Int.sub_mul, Int.mul_sub, Int.add_mul, Int.mul_add] at a1 a2 a3 a4
  generalize x * y = p at *
  generalize B * C = q at *
  generalize x * C = r at *
  generalize B * y = s at *
  omega

/-- a shift in the making: the first k are moved -/
def ShRel (s O : List Int) (p k : Nat) : Prop := O.length = 16 ∧ ∀ j, j < k → gi O (plus j p) = gi s j
theorem ShRel.step {s O : List Int} {p k : Nat} (h : ShRel s O p k) (hk : k < 16) : ShRel s (O.set (plus k p) (gi s k)) p (k + 1) := by
  refine ⟨by simpa using h.1, fun j hj => ?_⟩
  have hl := plus_lt k p
  simp only [gi, List.getD_eq_getElem?_getD, List.getElem?_set]
  by_cases hjk : j = k
  · subst hjk
    simp [h.1, hl]
  · rw [if_neg (fun e => hjk (plus_inj (by omega) hk e.symm))]
    exact h.2 j (by omega)
theorem ext_gi' {O zs : List Int} (hl : O.length = zs.length) (h : ∀ j, j < zs.length → gi O j = gi zs j) : O = zs := by
  apply List.ext_getElem hl
  intro i h1 h2
  have := h i h2
  simpa [gi, List.getD_eq_getElem?_getD, h1, h2] using this
theorem ShRel.done {s O : List Int} {p : Nat} (h : ShRel s O p 16) : O = shf s p := by
  apply ext_gi' (by simpa using h.1)
  intro i hi
  have hi' : i < 16 := by simpa using hi
  rw [gi_shf _ _ _ hi']
  have := h.2 (plus i (opp p)) (plus_lt _ _)
  rw [plus_opp' hi'] at this
  exact this

/-- a fold in the making: the places before k whole, of the place k the first l -/
def FoRel (a b O : List Int) (k l : Nat) : Prop := O.length = 16 ∧ ∀ i, i < 16 → gi O i = sm (fun j => gi a j * gi b (plus i (opp j))) k + sm (fun j => if plus k j = i then gi a k * gi b j else 0) l
theorem gi_set' (O : List Int) (k j : Nat) (z : Int) (hk : k < O.length) : gi (O.set k z) j = if k = j then z else gi O j := by
  simp only [gi, List.getD_eq_getElem?_getD, List.getElem?_set]
  split <;> simp_all
theorem gi_replicate (n i : Nat) : gi (List.replicate n 0) i = 0 := by
  simp only [gi, List.getD_eq_getElem?_getD, List.getElem?_replicate]
  split <;> rfl
theorem FoRel.zero (a b : List Int) : FoRel a b (List.replicate 16 0) 0 0 := ⟨by simp, fun i _ => by rw [gi_replicate, sm_none, sm_none]; rfl⟩
theorem FoRel.step {a b O : List Int} {k l : Nat} (h : FoRel a b O k l) : FoRel a b (O.set (plus k l) (gi O (plus k l) + gi a k * gi b l)) k (l + 1) := by
  have hl := plus_lt k l
  refine ⟨by simpa using h.1, fun i hi => ?_⟩
  rw [gi_set' _ _ _ _ (by rw [h.1]; exact hl)]
  simp only [sm]
  by_cases e : plus k l = i
  · rw [if_pos e, if_pos e, e, h.2 i hi]; omega
  · rw [if_neg e, if_neg e, h.2 i hi]; omega
theorem FoRel.next {a b O : List Int} {k : Nat} (h : FoRel a b O k 16) (hk : k < 16) : FoRel a b O (k + 1) 0 := by
  refine ⟨h.1, fun i hi => ?_⟩
  rw [h.2 i hi, sm_succ _ k, sm_none]
  have e : sm (fun j => if plus k j = i then gi a k * gi b j else 0) 16 = gi a k * gi b (plus i (opp k)) := by
    rw [← sm_single (gi a k * gi b (plus i (opp k))) (plus i (opp k)) 16 (plus_lt _ _)]
    apply sm_congr
    intro j hj
    by_cases hji : plus k j = i
    · have e2 : j = plus i (opp k) := by
        rw [← hji, plus_comm k j, plus_opp hj]
      rw [if_pos hji, if_pos e2, ← e2]
    · have e2 : ¬ j = plus i (opp k) := fun e2 => hji (by rw [e2, plus_comm, plus_opp' hi])
      rw [if_neg hji, if_neg e2]
  omega
theorem FoRel.done {a b O : List Int} (h : FoRel a b O 16 0) : O = fol a b := by
  apply ext_gi' (by simpa using h.1)
  intro i hi
  have hi' : i < 16 := by simpa using hi
  rw [gi_fol _ _ _ hi', h.2 i hi']
  simp [sm]
theorem FoRel.bd {a b O : List Int} {k l : Nat} (h : FoRel a b O k l) (ha : skyB a = true) (hb : skyB b = true) (hk : k ≤ 16) (hl : l ≤ 16) (i : Nat) (hi : i < 16) : -1000000000000 ≤ gi O i ∧ gi O i ≤ 1000000000000 := by
  rw [h.2 i hi]
  have h1 := sm_bd (f := fun j => gi a j * gi b (plus i (opp j))) (B := 10000000000) (n := k) (fun j _ => mul_bd (B := 100000) (C := 100000) (skyB_bd ha j) (skyB_bd hb _))
  have h2 := sm_bd (f := fun j => if plus k j = i then gi a k * gi b j else 0) (B := 10000000000) (n := l) (fun j _ => by
    show _ ≤ (if plus k j = i then gi a k * gi b j else 0) ∧ (if plus k j = i then gi a k * gi b j else 0) ≤ _
    split
    · exact mul_bd (B := 100000) (C := 100000) (skyB_bd ha k) (skyB_bd hb j)
    · omega)
  omega
/-- the program's fold: the first k places -/
def FiRel (a b O : List Int) (k : Nat) : Prop := FoRel a b O k 0
theorem FiRel.step {a b O : List Int} {k : Nat} (h : FiRel a b O k) (hk : k < 16) : FiRel a b (addT O (shf b k) (gi a k)) (k + 1) := by
  refine ⟨by simpa using h.1, fun i hi => ?_⟩
  rw [gi_addT _ _ _ _ (by rw [h.1]; exact hi), h.2 i hi, gi_shf _ _ _ hi]
  simp only [sm]
  omega
theorem pl_self (k : Nat) (h : k < 16) : pl ((k : Int) % 4) ((k : Int) / 4) = k := by unfold pl; omega

end Go.Proofs.Ytopneihamefohaa
