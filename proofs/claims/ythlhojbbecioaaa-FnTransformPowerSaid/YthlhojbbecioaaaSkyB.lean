/-
  Contracts of SkyAdd, SkyShift and SkyFold and of what they call, of the program.
-/
import Derived.Test.YthlhojbbecioaaaSkyA
import Derived.StillTailTactics
namespace Go.Proofs.Ythlhojbbecioaaa
set_option linter.unusedVariables false
open Go.RowKit

/-- A slice of numbers and a bool: the slice lies in new memory. -/
def RetInts (w : World) (r : List Int × Bool) (e : Ending) (w' : World) : Prop :=
  ∃ A c, e = .returned (.tuple #[.slice A r.1.length c, .bool r.2]) ∧ r.1.length ≤ c ∧ Ow w' 3 w.heap.size w'.heap.size A (ints r.1) ∧ Below w.heap.size w w'
theorem RetInts.none_ {w w' : World} (h : Below w.heap.size w w') : RetInts w ([], false) (.returned (.tuple #[.slice none 0 0, .bool false])) w' :=
  ⟨none, 0, rfl, Nat.le_refl _, Ow.none_, h⟩

/-- a sum of two skies in the making -/
def AddRel (w wr : World) (A : Option Addr) (a b : List Int) (t : Int) (k : Nat) : Prop :=
  ∃ O : List Int, O.length = a.length ∧ (∀ j, j < k → gi O j = gi a j + t * gi b j) ∧ Ow wr 3 w.heap.size (w.heap.size + 1) A (ints O) ∧ Below w.heap.size w wr ∧ wr.heap.size = w.heap.size + 1

theorem AddRel.start (w : World) (a b : List Int) (t : Int) : AddRel w (w.alloc (.cells (madeCells #[.int .i64 0] a.length) 3)) (some ⟨w.heap.size, 0, none⟩) a b t 0 :=
  ⟨List.replicate a.length 0, by simp, fun j hj => absurd hj (by omega), by rw [ints_replicate]; exact Ow.made w _ _ _, (Below.refl _ _).alloc (Nat.le_refl _) _, by simp⟩

theorem AddRel.drew {w wr : World} {A : Option Addr} {a b : List Int} {t : Int} {k : Nat} (h : AddRel w wr A a b t k) : AddRel w wr.drew A a b t k := by
  obtain ⟨O, h1, h2, h3, h4, h5⟩ := h
  exact ⟨O, h1, h2, h3, h4.drew, h5⟩

theorem AddRel.step {w wr : World} {g off : Nat} {a b O : List Int} {t : Int} {k : Nat} (hk : k < a.length) (h1 : O.length = a.length) (h2 : ∀ j, j < k → gi O j = gi a j + t * gi b j)
    (h3 : ∀ u, Ow (wr.setCell ⟨g, off + k, none⟩ u) 3 w.heap.size (w.heap.size + 1) (some ⟨g, off, none⟩) ((ints O).set k u)) (h4 : Below w.heap.size w wr) (hs : wr.heap.size = w.heap.size + 1) (hg : w.heap.size ≤ g) :
    AddRel w (wr.setCell ⟨g, off + k, none⟩ (.int .i64 (gi a k + t * gi b k))) (some ⟨g, off, none⟩) a b t (k + 1) := by
  refine ⟨O.set k (gi a k + t * gi b k), by simpa using h1, fun j hj => ?_, by rw [← ints_set]; exact h3 _, h4.setCell hg _, by simpa [World.setCell] using hs⟩
  rw [gi_set _ _ _ _ (by omega)]
  split
  · subst_vars; rfl
  · exact h2 j (by omega)

set_option maxHeartbeats 800000 in
theorem addTimes_any (A B : Option Addr) (c d : Nat) (a b : List Int) (t : Int) (w : World) (ha : Rd w A (ints a)) (hb : Rd w B (ints b)) (hl : a.length = 16) (hl' : b.length = 16)
    (hba : ∀ j, -1000000000000 ≤ gi a j ∧ gi a j ≤ 1000000000000) (hbb : ∀ j, -1000000000000 ≤ t * gi b j ∧ t * gi b j ≤ 1000000000000) {n m : Nat} (hn : a.length = n) (hm : b.length = m) :
    Calls Try.prog 51 #[.slice A n c, .slice B m d, .int .i64 t] w fun e w' =>
      ∃ A', e = .returned (.slice A' n n) ∧ Ow w' 3 w.heap.size w'.heap.size A' (ints (addT a b t)) ∧ Below w.heap.size w w' := by
  subst hn hm
  have hmk := fun w => run_make_row' (P := Try.prog) 23 3 (.int .i64 0) 8 Try.underlying23 info_int rfl .i64 .i64 a.length (by omega) (by omega) w
  have hle : a.length ≤ 16 := by omega
  have hle' : 16 ≤ b.length := by omega
  have HL := Lib.hid hl
  have HA := Lib.hid hba
  have HB := Lib.hid hbb
  clear hl hl' hba hbb
  go_enter Try.func51, Try.ntmps51
  go_wp2
  clear hmk
  go_loopw [14] (fun i wr => ∃ k : Nat, k ≤ a.length ∧ i = .int .i64 k ∧ AddRel w wr (some ⟨w.heap.size, 0, none⟩) a b t k) (fun i _ => a.length - (intOf i).toNat)
  case atStart => exact ⟨0, Nat.zero_le _, rfl, AddRel.start w a b t⟩
  case round =>
    obtain ⟨k, hk, rfl, O, h1, h2, h3, h4, h5⟩ := hrel
    by_cases hlt : k < a.length
    · obtain ⟨b1, off, rfl, hb1, hc⟩ := (ha.below h4 (Nat.le_refl _)).int_at hlt
      obtain ⟨b2, off2, rfl, hb2, hc2⟩ := (hb.below h4 (Nat.le_refl _)).int_at (k := k) (by omega)
      obtain ⟨g, off', e, hg, hg2, hg3, hc', hf', hset⟩ := h3.cell_at (k := k) (by simpa using (by omega : k < O.length))
      injection e with e
      injection e with e1 e2
      subst e1 e2
      rw [ints_get (by omega)] at hc'
      have hfin := AddRel.step (w := w) (t := t) (b := b) hlt h1 h2 hset h4 h5 hg
      simp only [Nat.zero_add] at hc' hf' hfin
      have HF := Lib.hid hfin
      obtain ⟨q1, q2⟩ := HA.out k
      obtain ⟨q3, q4⟩ := HB.out k
      have i1 : (k : Int) < (a.length : Int) := by omega
      have i2 : (k : Int) < (b.length : Int) := by omega
      clear hfin hset h1 h2 h3 h5
      go_wp2
      go_still_tail 14, (by kernel_rfl)
      go_wp2
      go_roundw
      case rel => exact ⟨k + 1, by omega, by go_num, HF.out.drew⟩
      case measure => simp [intOf]; omega
    · have hkz : k = a.length := by omega
      have e : O = addT a b t := ext_gi (by simpa using h1) (fun j hj => by rw [gi_addT _ _ _ _ (by simpa using hj)]; exact h2 j (by simp at hj; omega))
      subst e hkz
      have H5 := Lib.hid h5
      clear h5 h1 h2
      go_wp2
      go_ret
      exact ⟨_, rfl, by rw [H5.out]; exact h3, h4⟩

theorem skyChecked_yes (A : Option Addr) (c : Nat) (zs : List Int) (w : World) (h : Rd w A (ints zs)) (hl : zs.length ≤ 1048592) (hv : skyB zs = true) {n : Nat} (hn : zs.length = n) :
    Calls Try.prog 50 #[.slice A n c] w fun e w' => e = .returned (.tuple #[.slice A n c, .bool true]) ∧ w = w' := by
  subst hn
  go_enter Try.func50, Try.ntmps50
  go_wp2_with (go_at_call 40; refine (SkyValid_any _ _ _ _ h hl rfl).mono ?_; rintro e w' ⟨rfl, rfl⟩)
  go_ret2
  exact ⟨rfl, rfl⟩
theorem skyChecked_no (A : Option Addr) (c : Nat) (zs : List Int) (w : World) (h : Rd w A (ints zs)) (hl : zs.length ≤ 1048592) (hv : skyB zs = false) {n : Nat} (hn : zs.length = n) :
    Calls Try.prog 50 #[.slice A n c] w fun e w' => e = .returned (.tuple #[.slice none 0 0, .bool false]) ∧ w = w' := by
  subst hn
  go_enter Try.func50, Try.ntmps50
  go_wp2_with (go_at_call 40; refine (SkyValid_any _ _ _ _ h hl rfl).mono ?_; rintro e w' ⟨rfl, rfl⟩)
  go_ret2
  exact ⟨rfl, rfl⟩

theorem big_bd {zs : List Int} (h : skyB zs = true) (j : Nat) : -1000000000000 ≤ gi zs j ∧ gi zs j ≤ 1000000000000 := by
  have := skyB_bd h j; omega
theorem big_mul {t : Int} {zs : List Int} (ht : -100000 ≤ t ∧ t ≤ 100000) (h : skyB zs = true) (j : Nat) : -1000000000000 ≤ t * gi zs j ∧ t * gi zs j ≤ 1000000000000 := by
  have := mul_bd (B := 100000) (C := 100000) ht (skyB_bd h j); omega

set_option maxHeartbeats 800000 in
theorem SkyAdd_any (A B : Option Addr) (c d : Nat) (a b : List Int) (t : Int) (w : World) (ha : Rd w A (ints a)) (hb : Rd w B (ints b)) (hl : a.length ≤ 1048592) (hl' : b.length ≤ 1048592) {n m : Nat} (hn : a.length = n) (hm : b.length = m) :
    Calls Try.prog 22 #[.slice A n c, .slice B m d, .int .i64 t] w (RetInts w (skyAdd a b t)) := by
  subst hn hm
  cases va : skyB a with
  | false =>
    have hf : skyAdd a b t = ([], false) := by simp [skyAdd, va]
    rw [hf]
    clear hf
    go_enter Try.func22, Try.ntmps22
    go_wp2_with (go_at_call 40; refine (SkyValid_any _ _ _ _ ha hl rfl).mono ?_; rintro e w' ⟨rfl, rfl⟩)
    go_ret2
    exact RetInts.none_ (Below.refl _ _)
  | true =>
  cases vb : skyB b with
  | false =>
    have hf : skyAdd a b t = ([], false) := by simp [skyAdd, vb]
    rw [hf]
    clear hf
    go_enter Try.func22, Try.ntmps22
    go_wp2_with fail
    refine (SkyValid_any _ _ _ _ ha hl rfl).mono ?_; rintro e w' ⟨rfl, rfl⟩
    go_wp2_with fail
    refine (SkyValid_any _ _ _ _ hb hl' rfl).mono ?_; rintro e w' ⟨rfl, rfl⟩
    go_wp2
    go_ret2
    exact RetInts.none_ (Below.refl _ _)
  | true =>
  cases vt : inB t (-100000) 100000 with
  | false =>
    have hf : skyAdd a b t = ([], false) := by simp [skyAdd, vt]
    rw [hf]
    clear hf
    go_enter Try.func22, Try.ntmps22
    go_wp2_with fail
    refine (SkyValid_any _ _ _ _ ha hl rfl).mono ?_; rintro e w' ⟨rfl, rfl⟩
    go_wp2_with fail
    refine (SkyValid_any _ _ _ _ hb hl' rfl).mono ?_; rintro e w' ⟨rfl, rfl⟩
    go_wp2_with fail
    refine (inRange_any _ _ _ (by omega) (by omega)).mono ?_; rintro e w' ⟨rfl, rfl⟩
    go_wp2
    go_ret2
    exact RetInts.none_ (Below.refl _ _)
  | true =>
  have la := Lib.hid (skyB_len va)
  have lb := Lib.hid (skyB_len vb)
  have hle : (addT a b t).length ≤ 1048592 := by simp; omega
  go_enter Try.func22, Try.ntmps22
  go_wp2_with fail
  refine (SkyValid_any _ _ _ _ ha hl rfl).mono ?_; rintro e w' ⟨rfl, rfl⟩
  go_wp2_with fail
  refine (SkyValid_any _ _ _ _ hb hl' rfl).mono ?_; rintro e w' ⟨rfl, rfl⟩
  go_wp2_with fail
  refine (inRange_any _ _ _ (by omega) (by omega)).mono ?_; rintro e w' ⟨rfl, rfl⟩
  go_wp2_with fail
  refine (addTimes_any _ _ _ _ _ _ _ _ ha hb la.out lb.out (big_bd va) (big_mul (inB_true vt) vb) rfl rfl).mono ?_
  rintro e w1 ⟨A', rfl, hown, hbel⟩
  cases vs : skyB (addT a b t) with
  | false =>
    have hf : skyAdd a b t = ([], false) := by simp [skyAdd, vs]
    have HF := Lib.hid hf
    clear hf
    go_wp2_with fail
    refine (skyChecked_no _ _ _ _ hown.rd hle vs (by simp)).mono ?_; rintro e w' ⟨rfl, rfl⟩
    go_wp2
    go_ret2
    rw [HF.out]
    exact RetInts.none_ hbel
  | true =>
    have hf : skyAdd a b t = (addT a b t, true) := by simp [skyAdd, va, vb, vt, vs]
    have HF := Lib.hid hf
    clear hf
    go_wp2_with fail
    refine (skyChecked_yes _ _ _ _ hown.rd hle vs (by simp)).mono ?_; rintro e w' ⟨rfl, rfl⟩
    go_wp2
    go_ret2
    rw [HF.out]
    exact ⟨A', a.length, by simp, by simp, hown, hbel⟩

/-- a shifted sky in the making -/
def ShW (w wr : World) (A : Option Addr) (s : List Int) (p k : Nat) : Prop :=
  ∃ O : List Int, ShRel s O p k ∧ Ow wr 3 w.heap.size (w.heap.size + 1) A (ints O) ∧ Below w.heap.size w wr ∧ wr.heap.size = w.heap.size + 1
theorem ShW.start (w : World) (s : List Int) (p n : Nat) (hn : n = 16) : ShW w (w.alloc (.cells (madeCells #[.int .i64 0] n) 3)) (some ⟨w.heap.size, 0, none⟩) s p 0 :=
  ⟨List.replicate n 0, ⟨by simp [hn], fun j hj => absurd hj (by omega)⟩, by rw [ints_replicate]; exact Ow.made w _ _ _, (Below.refl _ _).alloc (Nat.le_refl _) _, by simp⟩
theorem ShW.drew {w wr : World} {A : Option Addr} {s : List Int} {p k : Nat} (h : ShW w wr A s p k) : ShW w wr.drew A s p k := by
  obtain ⟨O, h1, h2, h3, h4⟩ := h
  exact ⟨O, h1, h2, h3.drew, h4⟩
theorem ShW.step {w wr : World} {g off : Nat} {s O : List Int} {p k : Nat} (hk : k < 16) (h1 : ShRel s O p k)
    (h3 : ∀ u, Ow (wr.setCell ⟨g, off + plus k p, none⟩ u) 3 w.heap.size (w.heap.size + 1) (some ⟨g, off, none⟩) ((ints O).set (plus k p) u)) (h4 : Below w.heap.size w wr) (hs : wr.heap.size = w.heap.size + 1) (hg : w.heap.size ≤ g) :
    ShW w (wr.setCell ⟨g, off + plus k p, none⟩ (.int .i64 (gi s k))) (some ⟨g, off, none⟩) s p (k + 1) :=
  ⟨O.set (plus k p) (gi s k), h1.step hk, by rw [← ints_set]; exact h3 _, h4.setCell hg _, by simpa [World.setCell] using hs⟩

set_option maxHeartbeats 800000 in
theorem shifted_any (A : Option Addr) (c : Nat) (s : List Int) (x y : Int) (w : World) (hs : Rd w A (ints s)) (hl : s.length = 16) (hx : sideB x = true) (hy : sideB y = true) {n : Nat} (hn : s.length = n) :
    Calls Try.prog 56 #[.slice A n c, .int .i64 x, .int .i64 y] w fun e w' =>
      ∃ A', e = .returned (.slice A' 16 16) ∧ Ow w' 3 w.heap.size w'.heap.size A' (ints (shf s (pl x y))) ∧ Below w.heap.size w w' := by
  rw [hl] at hn
  subst hn
  have hmk := fun w => run_make_row' (P := Try.prog) 23 3 (.int .i64 0) 8 Try.underlying23 info_int rfl .i64 .i64 16 (by omega) (by omega) w
  have hmk' : ∀ w : World, (Instr.makeSlice 23 (.int .i64 16) (.int .i64 16)).run Try.prog w = .ok (.slice (some ⟨w.heap.size, 0, none⟩) 16 16) (w.alloc (.cells (madeCells #[.int .i64 0] 16) 3)) := hmk
  clear hmk
  have hx1 := (inB_true hx).1
  have hx2 := (inB_true hx).2
  have hy1 := (inB_true hy).1
  have hy2 := (inB_true hy).2
  have HL := Lib.hid hl
  clear hl
  go_enter Try.func56, Try.ntmps56
  go_wp2
  clear hmk'
  go_loopw [15] (fun i wr => ∃ k : Nat, k ≤ 16 ∧ i = .int .i64 k ∧ ShW w wr (some ⟨w.heap.size, 0, none⟩) s (pl x y) k) (fun i _ => 16 - (intOf i).toNat)
  case atStart => exact ⟨0, Nat.zero_le _, rfl, ShW.start w s _ 16 rfl⟩
  case round =>
    obtain ⟨k, hk, rfl, O, h1, h3, h4, h5⟩ := hrel
    by_cases hlt : k < 16
    · obtain ⟨b1, off, rfl, hb1, hc⟩ := (hs.below h4 (Nat.le_refl _)).int_at (k := k) (by rw [HL.out]; exact hlt)
      have hpl := plus_lt k (pl x y)
      obtain ⟨g, off', e, hg, hg2, hg3, hc', hf', hset⟩ := h3.cell_at (k := plus k (pl x y)) (by rw [ints_length, h1.1]; exact hpl)
      injection e with e
      injection e with e1 e2
      subst e1 e2
      rw [ints_get (by rw [h1.1]; exact hpl)] at hc'
      have hfin := ShW.step (w := w) hlt h1 hset h4 h5 hg
      have hcel := cel_pl hx hy k hlt
      simp only [Nat.zero_add] at hc' hf' hfin
      have HF := Lib.hid hfin
      have HC := Lib.hid hcel
      have H5 := Lib.hid h5
      clear hfin hset h1 h3 h5 hcel
      generalize plus k (pl x y) = q at *
      go_wp2_with fail
      refine (cellAt_any _ _ _).mono ?_
      rintro e w' ⟨rfl, rfl⟩
      rw [HC.out]
      go_wp2
      go_roundw
      case rel => exact ⟨k + 1, by omega, by go_num, HF.out⟩
      case measure => simp [intOf]; omega
    · obtain rfl : k = 16 := by omega
      have e := h1.done
      subst e
      have H5 := Lib.hid h5
      clear h5 h1
      go_wp2
      go_ret
      exact ⟨_, rfl, by rw [H5.out]; exact h3, h4⟩

set_option maxHeartbeats 800000 in
theorem SkyShift_any (A : Option Addr) (c : Nat) (s : List Int) (x y : Int) (w : World) (hs : Rd w A (ints s)) (hl : s.length ≤ 1048592) {n : Nat} (hn : s.length = n) :
    Calls Try.prog 29 #[.slice A n c, .int .i64 x, .int .i64 y] w (RetInts w (skyShift s x y)) := by
  subst hn
  cases vs : skyB s with
  | false =>
    have hf : skyShift s x y = ([], false) := by simp [skyShift, vs]
    rw [hf]
    clear hf
    go_enter Try.func29, Try.ntmps29
    go_wp2_with fail
    refine (SkyValid_any _ _ _ _ hs hl rfl).mono ?_; rintro e w' ⟨rfl, rfl⟩
    go_wp2
    go_ret2
    exact RetInts.none_ (Below.refl _ _)
  | true =>
  cases vx : sideB x with
  | false =>
    have hf : skyShift s x y = ([], false) := by simp [skyShift, vx]
    rw [hf]
    clear hf
    go_enter Try.func29, Try.ntmps29
    go_wp2_with fail
    refine (SkyValid_any _ _ _ _ hs hl rfl).mono ?_; rintro e w' ⟨rfl, rfl⟩
    go_wp2_with fail
    refine (isSide_any _ _).mono ?_; rintro e w' ⟨rfl, rfl⟩
    go_wp2
    go_ret2
    exact RetInts.none_ (Below.refl _ _)
  | true =>
  cases vy : sideB y with
  | false =>
    have hf : skyShift s x y = ([], false) := by simp [skyShift, vy]
    rw [hf]
    clear hf
    go_enter Try.func29, Try.ntmps29
    go_wp2_with fail
    refine (SkyValid_any _ _ _ _ hs hl rfl).mono ?_; rintro e w' ⟨rfl, rfl⟩
    go_wp2_with fail
    refine (isSide_any _ _).mono ?_; rintro e w' ⟨rfl, rfl⟩
    go_wp2_with fail
    refine (isSide_any _ _).mono ?_; rintro e w' ⟨rfl, rfl⟩
    go_wp2
    go_ret2
    exact RetInts.none_ (Below.refl _ _)
  | true =>
  have hf : skyShift s x y = (shf s (pl x y), true) := by simp [skyShift, vs, vx, vy]
  rw [hf]
  clear hf
  go_enter Try.func29, Try.ntmps29
  go_wp2_with fail
  refine (SkyValid_any _ _ _ _ hs hl rfl).mono ?_; rintro e w' ⟨rfl, rfl⟩
  go_wp2_with fail
  refine (isSide_any _ _).mono ?_; rintro e w' ⟨rfl, rfl⟩
  go_wp2_with fail
  refine (isSide_any _ _).mono ?_; rintro e w' ⟨rfl, rfl⟩
  go_wp2_with fail
  refine (shifted_any _ _ _ _ _ _ hs (skyB_len vs) vx vy rfl).mono ?_
  rintro e w1 ⟨A', rfl, hown, hbel⟩
  go_wp2
  go_ret2
  exact ⟨A', 16, by simp, by simp, hown, hbel⟩

theorem side_mod (k : Nat) : sideB ((k : Int) % 4) = true := inB_mk (by omega)
theorem side_div (k : Nat) (h : k < 16) : sideB ((k : Int) / 4) = true := inB_mk (by omega)
theorem shf_bd {b : List Int} (h : skyB b = true) (k j : Nat) : -100000 ≤ gi (shf b k) j ∧ gi (shf b k) j ≤ 100000 := by
  by_cases hj : j < 16
  · rw [gi_shf _ _ _ hj]; exact skyB_bd h _
  · have : gi (shf b k) j = 0 := by simp [gi, Nat.le_of_not_lt hj]
    omega
theorem FiRel.bd {a b O : List Int} {k : Nat} (h : FiRel a b O k) (ha : skyB a = true) (hb : skyB b = true) (hk : k ≤ 16) (i : Nat) : -1000000000000 ≤ gi O i ∧ gi O i ≤ 1000000000000 := by
  by_cases hi : i < 16
  · exact FoRel.bd h ha hb hk (by omega) i hi
  · have hl := h.1
    have : gi O i = 0 := by simp [gi, show O.length ≤ i by omega]
    omega

/-- a folded sky in the making -/
def FiW (w wr : World) (v : Value) (a b : List Int) (k : Nat) : Prop :=
  ∃ (A : Option Addr) (O : List Int), v = .slice A 16 16 ∧ FiRel a b O k ∧ Ow wr 3 w.heap.size wr.heap.size A (ints O) ∧ Below w.heap.size w wr

set_option maxHeartbeats 800000 in
theorem fold_any (A B : Option Addr) (c d : Nat) (a b : List Int) (w : World) (ha : Rd w A (ints a)) (hb : Rd w B (ints b)) (va : skyB a = true) (vb : skyB b = true) {n m : Nat} (hn : a.length = n) (hm : b.length = m) :
    Calls Try.prog 53 #[.slice A n c, .slice B m d] w fun e w' =>
      ∃ A', e = .returned (.slice A' 16 16) ∧ Ow w' 3 w.heap.size w'.heap.size A' (ints (fol a b)) ∧ Below w.heap.size w w' := by
  rw [skyB_len va] at hn
  rw [skyB_len vb] at hm
  subst hn hm
  have hmk : ∀ w : World, (Instr.makeSlice 23 (.int .i64 16) (.int .i64 16)).run Try.prog w = .ok (.slice (some ⟨w.heap.size, 0, none⟩) 16 16) (w.alloc (.cells (madeCells #[.int .i64 0] 16) 3)) :=
    fun w => run_make_row' (P := Try.prog) 23 3 (.int .i64 0) 8 Try.underlying23 info_int rfl .i64 .i64 16 (by omega) (by omega) w
  have HA := Lib.hid (skyB_len va)
  have HB := Lib.hid (skyB_len vb)
  go_enter Try.func53, Try.ntmps53
  go_wp2
  clear hmk
  go_loopw [5, 13] (fun v i wr => ∃ k : Nat, k ≤ 16 ∧ i = .int .i64 k ∧ FiW w wr v a b k) (fun _ i _ => 16 - (intOf i).toNat)
  case atStart => exact ⟨0, Nat.zero_le _, rfl, _, _, rfl, FoRel.zero a b, by rw [ints_replicate]; exact (Ow.made w _ _ 16).mono (Nat.le_refl _) (by simp), (Below.refl _ _).alloc (Nat.le_refl _) _⟩
  case round =>
    obtain ⟨k, hk, rfl, Ao, O, rfl, h1, h3, h4⟩ := hrel
    by_cases hlt : k < 16
    · obtain ⟨b1, off, rfl, hb1, hc⟩ := (ha.below h4 (Nat.le_refl _)).int_at (k := k) (by rw [HA.out]; exact hlt)
      have H1 := Lib.hid h1
      clear h1
      go_wp2_with fail
      refine (shifted_any _ _ _ _ _ _ (hb.below h4 (Nat.le_refl _)) HB.out (side_mod k) (side_div k hlt) HB.out).mono ?_
      rintro e w1 ⟨A', rfl, hown1, hbel1⟩
      go_wp2_with fail
      refine (addTimes_any _ _ _ _ _ _ _ _ (h3.below hbel1 (Nat.le_refl _)).rd hown1.rd H1.out.1 (by simp) (H1.out.bd va vb hk) (fun j => by have := mul_bd (B := 100000) (C := 100000) (skyB_bd va k) (shf_bd vb (pl ((k : Int) % 4) ((k : Int) / 4)) j); omega) H1.out.1 (by simp)).mono ?_
      rintro e w2 ⟨A'', rfl, hown2, hbel2⟩
      have hfin := H1.out.step hlt
      rw [pl_self k hlt] at hown2
      have HF := Lib.hid hfin
      clear hfin
      go_wp2
      go_roundw
      case rel =>
        have hb1 := hbel1.size
        have hb2 := hbel2.size
        have hb4 := h4.size
        exact ⟨k + 1, by omega, by go_num, A'', _, rfl, HF.out, hown2.mono (by omega) (Nat.le_refl _), (h4.trans (hbel1.mono hb4)).trans (hbel2.mono (by omega))⟩
      case measure => simp [intOf]; omega
    · obtain rfl : k = 16 := by omega
      have e := FoRel.done h1
      subst e
      clear h1
      go_wp2
      go_ret
      exact ⟨_, rfl, h3, h4⟩

set_option maxHeartbeats 800000 in
theorem SkyFold_any (A B : Option Addr) (c d : Nat) (a b : List Int) (w : World) (ha : Rd w A (ints a)) (hb : Rd w B (ints b)) (hl : a.length ≤ 1048592) (hl' : b.length ≤ 1048592) {n m : Nat} (hn : a.length = n) (hm : b.length = m) :
    Calls Try.prog 26 #[.slice A n c, .slice B m d] w (RetInts w (skyFold a b)) := by
  subst hn hm
  cases va : skyB a with
  | false =>
    have hf : skyFold a b = ([], false) := by simp [skyFold, va]
    rw [hf]
    clear hf
    go_enter Try.func26, Try.ntmps26
    go_wp2_with fail
    refine (SkyValid_any _ _ _ _ ha hl rfl).mono ?_; rintro e w' ⟨rfl, rfl⟩
    go_wp2
    go_ret2
    exact RetInts.none_ (Below.refl _ _)
  | true =>
  cases vb : skyB b with
  | false =>
    have hf : skyFold a b = ([], false) := by simp [skyFold, vb]
    rw [hf]
    clear hf
    go_enter Try.func26, Try.ntmps26
    go_wp2_with fail
    refine (SkyValid_any _ _ _ _ ha hl rfl).mono ?_; rintro e w' ⟨rfl, rfl⟩
    go_wp2_with fail
    refine (SkyValid_any _ _ _ _ hb hl' rfl).mono ?_; rintro e w' ⟨rfl, rfl⟩
    go_wp2
    go_ret2
    exact RetInts.none_ (Below.refl _ _)
  | true =>
  have hle : (fol a b).length ≤ 1048592 := by simp
  go_enter Try.func26, Try.ntmps26
  go_wp2_with fail
  refine (SkyValid_any _ _ _ _ ha hl rfl).mono ?_; rintro e w' ⟨rfl, rfl⟩
  go_wp2_with fail
  refine (SkyValid_any _ _ _ _ hb hl' rfl).mono ?_; rintro e w' ⟨rfl, rfl⟩
  go_wp2_with fail
  refine (fold_any _ _ _ _ _ _ _ ha hb va vb rfl rfl).mono ?_
  rintro e w1 ⟨A', rfl, hown, hbel⟩
  cases vs : skyB (fol a b) with
  | false =>
    have hf : skyFold a b = ([], false) := by simp [skyFold, vs]
    have HF := Lib.hid hf
    clear hf
    go_wp2_with fail
    refine (skyChecked_no _ _ _ _ hown.rd hle vs (by simp)).mono ?_; rintro e w' ⟨rfl, rfl⟩
    go_wp2
    go_ret2
    rw [HF.out]
    exact RetInts.none_ hbel
  | true =>
    have hf : skyFold a b = (fol a b, true) := by simp [skyFold, va, vb, vs]
    have HF := Lib.hid hf
    clear hf
    go_wp2_with fail
    refine (skyChecked_yes _ _ _ _ hown.rd hle vs (by simp)).mono ?_; rintro e w' ⟨rfl, rfl⟩
    go_wp2
    go_ret2
    rw [HF.out]
    exact ⟨A', 16, by simp, by simp, hown, hbel⟩
end Go.Proofs.Ythlhojbbecioaaa
