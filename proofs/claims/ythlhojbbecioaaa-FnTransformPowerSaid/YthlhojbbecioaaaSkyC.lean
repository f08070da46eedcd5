/-
  Contracts of the reference's SkyAdd, SkyShift and SkyFold.
-/
import Derived.Test.YthlhojbbecioaaaSkyB
import Derived.Deep.AppendLies
import Derived.Deep.RegionLaw
import Derived.BigRegion
namespace Go.Proofs.Ythlhojbbecioaaa
set_option linter.unusedVariables false
open Go.RowKit

theorem RetInts.empty {w w' : World} (A : Option Addr) (c : Nat) (h : Below w.heap.size w w') : RetInts w ([], false) (.returned (.tuple #[.slice A 0 c, .bool false])) w' :=
  ⟨A, c, rfl, Nat.zero_le _, Ow.none_, h⟩

/-- a sum of two skies in the making, by appends -/
def ApW (w wr : World) (v : Value) (a b : List Int) (t : Int) (k : Nat) : Prop :=
  ∃ O : List Int, O.length = k ∧ (∀ j, j < k → gi O j = gi a j + t * gi b j) ∧ wr.ownsRow w.heap.size 3 1 v k (ints O) ∧ Below w.heap.size w wr

theorem ApW.step {w wr w1 : World} {v v' : Value} {o : Obj} {a b O : List Int} {t : Int} {k : Nat} (h1 : O.length = k) (h2 : ∀ j, j < k → gi O j = gi a j + t * gi b j) (h3 : wr.ownsRow w.heap.size 3 1 v k (ints O)) (h4 : Below w.heap.size w wr)
    (hown : w1.ownsRow w.heap.size 3 1 v' (k + 1) (ints O ++ [.int .i64 (gi a k + t * gi b k)])) (hg : (wr.alloc o).drew.grownBy w1 v.ownBlock) : ApW w w1 v' a b t (k + 1) := by
  refine ⟨O ++ [gi a k + t * gi b k], by simp [h1], fun j hj => ?_, by rw [ints_append]; exact hown, bel_append h4 hg (fun q hq => (h3.lt q hq).1)⟩
  by_cases e : j = k
  · subst e
    rw [← h1, gi_append_last]
  · rw [gi_append_left (by omega)]
    exact h2 j (by omega)

set_option maxHeartbeats 1000000 in
theorem sSkyAdd_yes (A B : Option Addr) (c d : Nat) (a b : List Int) (t : Int) (w : World) (ha : Rd w A (ints a)) (hb : Rd w B (ints b)) (va : skyB a = true) (vb : skyB b = true) (vt : inB t (-100000) 100000 = true) {n m : Nat} (hn : a.length = n) (hm : b.length = m) :
    Calls Try.prog 23 #[.slice A n c, .slice B m d, .int .i64 t] w (RetInts w (skyAdd a b t)) := by
  have hl : a.length ≤ 1048592 := by have := skyB_len va; omega
  have hl' : b.length ≤ 1048592 := by have := skyB_len vb; omega
  have la := Lib.hid (skyB_len va)
  have lb := Lib.hid (skyB_len vb)
  subst hn hm
  obtain ⟨i0, hi, hz0, hz1, hz2⟩ := info_parts info_int
  go_enter Try.func23, Try.ntmps23
  go_wp2_with fail
  refine (sSkyValid_any _ _ _ _ (ha.below ((Below.refl w.heap.size w).alloc (Nat.le_refl _) _) (Nat.le_refl _)) hl rfl).mono ?_; rintro e w' ⟨rfl, rfl⟩
  go_wp2_with fail
  refine (sSkyValid_any _ _ _ _ (hb.below ((Below.refl w.heap.size w).alloc (Nat.le_refl _) _) (Nat.le_refl _)) hl' rfl).mono ?_; rintro e w' ⟨rfl, rfl⟩
  go_wp2_with fail
  refine (l6In_any _ _ _ _).mono ?_; rintro e w' ⟨rfl, rfl⟩
  go_wp2
  go_loopw [8, 9] (fun v i wr => ∃ k : Nat, k ≤ 16 ∧ i = .int .i64 k ∧ ApW w wr v a b t k) (fun _ i _ => 16 - (intOf i).toNat)
  case atStart => exact ⟨0, Nat.zero_le _, rfl, [], rfl, fun j hj => absurd hj (by omega), World.ownsRow_made w #[] 0 (Nat.le_refl _) (by simp [maxLen]) rfl, (Below.refl _ _).alloc (Nat.le_refl _) _⟩
  case round =>
    obtain ⟨k, hk, rfl, O, h1, h2, h3, h4⟩ := hrel
    by_cases hlt : k < 16
    · obtain ⟨b1, off, rfl, hb1, hc⟩ := (ha.below h4 (Nat.le_refl _)).int_at (k := k) (by rw [la.out]; exact hlt)
      obtain ⟨b2, off2, rfl, hb2, hc2⟩ := (hb.below h4 (Nat.le_refl _)).int_at (k := k) (by rw [lb.out]; exact hlt)
      have i1 : (k : Int) < (a.length : Int) := by rw [la.out]; omega
      have i2 : (k : Int) < (b.length : Int) := by rw [lb.out]; omega
      obtain ⟨q1, q2⟩ := big_bd va k
      obtain ⟨q3, q4⟩ := big_mul (inB_true vt) vb k
      have H1 := Lib.hid h1
      have H2 := Lib.hid h2
      have H3 := Lib.hid h3
      have hsz := h4.size
      clear h1 h2 h3
      go_wp2_with (go_at_call 44; refine (l21Cells_any _).mono ?_; rintro e w' ⟨rfl, rfl⟩)
      have m1 := Lib.hid (show k + 1 ≤ maxLen by simp [maxLen]; omega)
      have m2 := Lib.hid (show (k + 1) * 8 ≤ 140737488355328 by omega)
      have m3 := Lib.hid (base_da (o := .cells #[.int .i64 (gi a k + t * gi b k)] 3) hsz)
      have e1 : IntKind.i64.wrap (t * gi b k) = t * gi b k := IntWalk.i64_in _ (by omega)
      have e2 : IntKind.i64.wrap (gi a k + t * gi b k) = gi a k + t * gi b k := IntWalk.i64_in _ (by omega)
      go_region_law ((refine step_append_lies _ rfl (.tmp 30) (.tmp 42) 23 rfl w.heap.size 3 i0 (.int .i64 0) 1 8 Try.underlying23 hi hz0 hz1 hz2 rfl (by decide) _ k (ints O) (by simp [Act.eval]) (own_da H3.out _) ⟨wr.heap.size, 0, none⟩ 1 1 [.int .i64 (gi a k + t * gi b k)] (by simp [Act.eval]) rfl (news_da _ _ _) (one_int _) (by decide) m1.out m2.out m3.out _ rfl ?_; intro g cap w1 hown hgrow hat hlt'))
      all_goals
        clear e1 e2
        go_wp2
        go_roundw
        case rel => exact ⟨k + 1, by omega, by go_num, ApW.step H1.out H2.out H3.out h4 hown hgrow⟩
        case measure => simp [intOf]; omega
    · obtain rfl : k = 16 := by omega
      have e : O = addT a b t := ext_gi (by simp [la.out, h1]) (fun j hj => by rw [gi_addT _ _ _ _ (by simpa using hj)]; exact h2 j (by simp [la.out] at hj; omega))
      subst e
      obtain ⟨Ao, co, rfl, hco, _⟩ := own_shape h3
      have ho := Ow.of_own h3
      have hle : (addT a b t).length ≤ 1048592 := by simp; omega
      have hl16 : (addT a b t).length = 16 := by simp [la.out]
      have HL := Lib.hid hl16
      clear h1 h2 h3 hl16
      cases vs : skyB (addT a b t) with
      | false =>
        have hf : skyAdd a b t = ([], false) := by simp [skyAdd, vs]
        have HF := Lib.hid hf
        clear hf
        go_wp2_with (go_at_call 44; refine (l21Cells_any _).mono ?_; rintro e w' ⟨rfl, rfl⟩)
        refine (sSkyValid_any _ _ _ _ ho.rd hle HL.out).mono ?_; rintro e w' ⟨rfl, rfl⟩
        go_wp2
        go_ret2
        rw [HF.out]
        exact RetInts.empty _ _ (h4.alloc h4.size _)
      | true =>
        have hf : skyAdd a b t = (addT a b t, true) := by simp [skyAdd, va, vb, vt, vs]
        have HF := Lib.hid hf
        clear hf
        go_wp2_with (go_at_call 44; refine (l21Cells_any _).mono ?_; rintro e w' ⟨rfl, rfl⟩)
        refine (sSkyValid_any _ _ _ _ ho.rd hle HL.out).mono ?_; rintro e w' ⟨rfl, rfl⟩
        go_wp2
        go_ret2
        rw [HF.out]
        exact ⟨Ao, co, by simp [la.out], by simp [la.out]; exact hco, ho, h4⟩

set_option maxHeartbeats 1000000 in
theorem sSkyAdd_any (A B : Option Addr) (c d : Nat) (a b : List Int) (t : Int) (w : World) (ha : Rd w A (ints a)) (hb : Rd w B (ints b)) (hl : a.length ≤ 1048592) (hl' : b.length ≤ 1048592) {n m : Nat} (hn : a.length = n) (hm : b.length = m) :
    Calls Try.prog 23 #[.slice A n c, .slice B m d, .int .i64 t] w (RetInts w (skyAdd a b t)) := by
  have ha' := ha.below ((Below.refl w.heap.size w).alloc (Nat.le_refl _) (.cells #[] 3)) (Nat.le_refl _)
  have hb' := hb.below ((Below.refl w.heap.size w).alloc (Nat.le_refl _) (.cells #[] 3)) (Nat.le_refl _)
  cases va : skyB a with
  | false =>
    have hf : skyAdd a b t = ([], false) := by simp [skyAdd, va]
    rw [hf]
    clear hf
    subst hn hm
    go_enter Try.func23, Try.ntmps23
    go_wp2_with fail
    refine (sSkyValid_any _ _ _ _ ha' hl rfl).mono ?_; rintro e w' ⟨rfl, rfl⟩
    go_wp2
    go_ret2
    exact RetInts.empty _ _ ((Below.refl _ _).alloc (Nat.le_refl _) _)
  | true =>
  cases vb : skyB b with
  | false =>
    have hf : skyAdd a b t = ([], false) := by simp [skyAdd, vb]
    rw [hf]
    clear hf
    subst hn hm
    go_enter Try.func23, Try.ntmps23
    go_wp2_with fail
    refine (sSkyValid_any _ _ _ _ ha' hl rfl).mono ?_; rintro e w' ⟨rfl, rfl⟩
    go_wp2_with fail
    refine (sSkyValid_any _ _ _ _ hb' hl' rfl).mono ?_; rintro e w' ⟨rfl, rfl⟩
    go_wp2
    go_ret2
    exact RetInts.empty _ _ ((Below.refl _ _).alloc (Nat.le_refl _) _)
  | true =>
  cases vt : inB t (-100000) 100000 with
  | false =>
    have hf : skyAdd a b t = ([], false) := by simp [skyAdd, vt]
    rw [hf]
    clear hf
    subst hn hm
    go_enter Try.func23, Try.ntmps23
    go_wp2_with fail
    refine (sSkyValid_any _ _ _ _ ha' hl rfl).mono ?_; rintro e w' ⟨rfl, rfl⟩
    go_wp2_with fail
    refine (sSkyValid_any _ _ _ _ hb' hl' rfl).mono ?_; rintro e w' ⟨rfl, rfl⟩
    go_wp2_with fail
    refine (l6In_any _ _ _ _).mono ?_; rintro e w' ⟨rfl, rfl⟩
    go_wp2
    go_ret2
    exact RetInts.empty _ _ ((Below.refl _ _).alloc (Nat.le_refl _) _)
  | true => exact sSkyAdd_yes A B c d a b t w ha hb va vb vt hn hm

theorem make16 : ∀ w : World, (Instr.makeSlice 23 (.int .i64 16) (.int .i64 16)).run Try.prog w = .ok (.slice (some ⟨w.heap.size, 0, none⟩) 16 16) (w.alloc (.cells (madeCells #[.int .i64 0] 16) 3)) :=
    fun w => run_make_row' (P := Try.prog) 23 3 (.int .i64 0) 8 Try.underlying23 info_int rfl .i64 .i64 16 (by omega) (by omega) w


/-- a folded sky in the making, by stores -/
def FoW (w wr : World) (A : Option Addr) (a b : List Int) (k l : Nat) : Prop :=
  ∃ O : List Int, FoRel a b O k l ∧ Ow wr 3 w.heap.size (w.heap.size + 1) A (ints O) ∧ Below w.heap.size w wr ∧ wr.heap.size = w.heap.size + 1
theorem FoW.drew {w wr : World} {A : Option Addr} {a b : List Int} {k l : Nat} (h : FoW w wr A a b k l) : FoW w wr.drew A a b k l := by
  obtain ⟨O, h1, h2, h3, h4⟩ := h
  exact ⟨O, h1, h2, h3.drew, h4⟩
theorem FoW.start (w : World) (a b : List Int) : FoW w (w.alloc (.cells (madeCells #[.int .i64 0] 16) 3)) (some ⟨w.heap.size, 0, none⟩) a b 0 0 :=
  ⟨_, FoRel.zero a b, by rw [ints_replicate]; exact Ow.made w _ _ 16, (Below.refl _ _).alloc (Nat.le_refl _) _, by simp⟩
theorem FoW.next {w wr : World} {A : Option Addr} {a b : List Int} {k : Nat} (h : FoW w wr A a b k 16) (hk : k < 16) : FoW w wr A a b (k + 1) 0 := by
  obtain ⟨O, h1, h2, h3, h4⟩ := h
  exact ⟨O, h1.next hk, h2, h3, h4⟩
theorem FoW.step {w wr : World} {g off : Nat} {a b O : List Int} {k l : Nat} (h1 : FoRel a b O k l)
    (h3 : ∀ u, Ow (wr.setCell ⟨g, off + plus k l, none⟩ u) 3 w.heap.size (w.heap.size + 1) (some ⟨g, off, none⟩) ((ints O).set (plus k l) u)) (h4 : Below w.heap.size w wr) (hs : wr.heap.size = w.heap.size + 1) (hg : w.heap.size ≤ g) :
    FoW w (wr.setCell ⟨g, off + plus k l, none⟩ (.int .i64 (gi O (plus k l) + gi a k * gi b l))) (some ⟨g, off, none⟩) a b k (l + 1) :=
  ⟨_, h1.step, by rw [← ints_set]; exact h3 _, h4.setCell hg _, by simpa [World.setCell] using hs⟩
theorem cel_plus (k l : Nat) : cel ((k : Int) % 4 + (l : Int) % 4) ((k : Int) / 4 + (l : Int) / 4) = plus k l := by unfold cel plus; omega

set_option maxHeartbeats 2000000 in
theorem l21Fold_any (A B : Option Addr) (c d : Nat) (a b : List Int) (w : World) (ha : Rd w A (ints a)) (hb : Rd w B (ints b)) (va : skyB a = true) (vb : skyB b = true) {n m : Nat} (hn : a.length = n) (hm : b.length = m) :
    Calls Try.prog 54 #[.slice A n c, .slice B m d] w fun e w' =>
      ∃ A', e = .returned (.slice A' 16 16) ∧ Ow w' 3 w.heap.size w'.heap.size A' (ints (fol a b)) ∧ Below w.heap.size w w' := by
  rw [skyB_len va] at hn
  rw [skyB_len vb] at hm
  subst hn hm
  have HA := Lib.hid (skyB_len va)
  have HB := Lib.hid (skyB_len vb)
  have hmk := make16
  go_enter Try.func54, Try.ntmps54
  go_wp2_with (go_at_call 44; refine (l21Cells_any _).mono ?_; rintro e w' ⟨rfl, rfl⟩)
  clear hmk
  go_loopw [6] (fun i wr => ∃ k : Nat, k ≤ 16 ∧ i = .int .i64 k ∧ FoW w wr (some ⟨w.heap.size, 0, none⟩) a b k 0) (fun i _ => 16 - (intOf i).toNat)
  case atStart => exact ⟨0, Nat.zero_le _, rfl, FoW.start w a b⟩
  case round =>
    obtain ⟨k, hk, rfl, hrel⟩ := hrel
    obtain ⟨wo, rfl⟩ : ∃ wo : World, wo = wr := ⟨_, rfl⟩
    by_cases hlt : k < 16
    · have HR := Lib.hid hrel
      clear hrel
      have hd1 : decide ((k : Int) < 16) = true := by simp; omega
      go_wp2_with (go_at_call 44; refine (l21Cells_any _).mono ?_; rintro e w' ⟨rfl, rfl⟩)
      go_loopw [7] (fun i wr => ∃ l : Nat, l ≤ 16 ∧ i = .int .i64 l ∧ FoW w wr (some ⟨w.heap.size, 0, none⟩) a b k l) (fun i _ => 16 - (intOf i).toNat)
      case atStart => exact ⟨0, Nat.zero_le _, rfl, HR.out⟩
      case round =>
        clear HR
        obtain ⟨l, hl, rfl, O, h1, h3, h4, h5⟩ := hrel
        by_cases hlt2 : l < 16
        · obtain ⟨b1, off, rfl, hb1, hc⟩ := (ha.below h4 (Nat.le_refl _)).int_at (k := k) (by rw [HA.out]; exact hlt)
          obtain ⟨b2, off2, rfl, hb2, hc2⟩ := (hb.below h4 (Nat.le_refl _)).int_at (k := l) (by rw [HB.out]; exact hlt2)
          have hpl := plus_lt k l
          obtain ⟨g, off', e, hg, hg2, hg3, hc', hf', hset⟩ := h3.cell_at (k := plus k l) (by rw [ints_length, h1.1]; exact hpl)
          injection e with e
          injection e with e1 e2
          subst e1 e2
          rw [ints_get (by rw [h1.1]; exact hpl)] at hc'
          have hfin := FoW.step (w := w) h1 hset h4 h5 hg
          have hcel := cel_plus k l
          obtain ⟨q1, q2⟩ := FoRel.bd h1 va vb hk hl (plus k l) hpl
          obtain ⟨q3, q4⟩ := big_mul (skyB_bd va k) vb l
          simp only [Nat.zero_add] at hc' hf' hfin
          have HF := Lib.hid hfin
          have H5 := Lib.hid h5
          have HC := Lib.hid hcel
          clear hfin hset h1 h3 h5 hcel
          generalize plus k l = q at *
          generalize gi O q = z at *
          have i1 : (k : Int) < 16 := by omega
          have i2 : (l : Int) < 16 := by omega
          have i3 : (q : Int) < 16 := by omega
          go_wp2_with (go_at_call 44; refine (l21Cells_any _).mono ?_; rintro e w' ⟨rfl, rfl⟩)
          refine (l21At_any _ _ _).mono ?_
          rintro e w' ⟨rfl, rfl⟩
          rw [HC.out]
          go_wp2
          have e1 : IntKind.i64.wrap (gi a k * gi b l) = gi a k * gi b l := IntWalk.i64_in _ (by omega)
          have e2 : IntKind.i64.wrap (z + gi a k * gi b l) = z + gi a k * gi b l := IntWalk.i64_in _ (by omega)
          go_still_tail 17, (by kernel_rfl)
          clear e1 e2
          go_wp2
          go_roundw
          case rel => exact ⟨l + 1, by omega, by go_num, HF.out.drew⟩
          case measure => simp [intOf]; omega
        · obtain rfl : l = 16 := by omega
          have hfin : FoW w wr (some ⟨w.heap.size, 0, none⟩) a b (k + 1) 0 := FoW.next ⟨O, h1, h3, h4, h5⟩ hlt
          have HF := Lib.hid hfin
          clear hfin h1 h3 h4 h5
          go_wp2_with (go_at_call 44; refine (l21Cells_any _).mono ?_; rintro e w' ⟨rfl, rfl⟩)
          go_roundw
          case rel => exact ⟨k + 1, by omega, by go_num, HF.out⟩
          case measure => simp [intOf]; omega
    · obtain rfl : k = 16 := by omega
      obtain ⟨O, h1, h3, h4, h5⟩ := hrel
      have e := h1.done
      subst e
      have H5 := Lib.hid h5
      clear h5 h1
      go_wp2_with (go_at_call 44; refine (l21Cells_any _).mono ?_; rintro e w' ⟨rfl, rfl⟩)
      go_ret
      exact ⟨_, rfl, by rw [H5.out]; exact h3, h4⟩

set_option maxHeartbeats 1000000 in
theorem sSkyFold_any (A B : Option Addr) (c d : Nat) (a b : List Int) (w : World) (ha : Rd w A (ints a)) (hb : Rd w B (ints b)) (hl : a.length ≤ 1048592) (hl' : b.length ≤ 1048592) {n m : Nat} (hn : a.length = n) (hm : b.length = m) :
    Calls Try.prog 27 #[.slice A n c, .slice B m d] w (RetInts w (skyFold a b)) := by
  subst hn hm
  cases va : skyB a with
  | false =>
    have hf : skyFold a b = ([], false) := by simp [skyFold, va]
    rw [hf]
    clear hf
    go_enter Try.func27, Try.ntmps27
    go_wp2_with fail
    refine (sSkyValid_any _ _ _ _ ha hl rfl).mono ?_; rintro e w' ⟨rfl, rfl⟩
    go_wp2
    go_ret2
    exact RetInts.empty _ _ ((Below.refl _ _).alloc (Nat.le_refl _) _)
  | true =>
  cases vb : skyB b with
  | false =>
    have hf : skyFold a b = ([], false) := by simp [skyFold, vb]
    rw [hf]
    clear hf
    go_enter Try.func27, Try.ntmps27
    go_wp2_with fail
    refine (sSkyValid_any _ _ _ _ ha hl rfl).mono ?_; rintro e w' ⟨rfl, rfl⟩
    go_wp2_with fail
    refine (sSkyValid_any _ _ _ _ hb hl' rfl).mono ?_; rintro e w' ⟨rfl, rfl⟩
    go_wp2
    go_ret2
    exact RetInts.empty _ _ ((Below.refl _ _).alloc (Nat.le_refl _) _)
  | true =>
  have hle : (fol a b).length ≤ 1048592 := by simp
  go_enter Try.func27, Try.ntmps27
  go_wp2_with fail
  refine (sSkyValid_any _ _ _ _ ha hl rfl).mono ?_; rintro e w' ⟨rfl, rfl⟩
  go_wp2_with fail
  refine (sSkyValid_any _ _ _ _ hb hl' rfl).mono ?_; rintro e w' ⟨rfl, rfl⟩
  go_wp2_with fail
  refine (l21Fold_any _ _ _ _ _ _ _ ha hb va vb rfl rfl).mono ?_
  rintro e w1 ⟨A', rfl, hown, hbel⟩
  cases vs : skyB (fol a b) with
  | false =>
    have hf : skyFold a b = ([], false) := by simp [skyFold, vs]
    have HF := Lib.hid hf
    clear hf
    go_wp2_with fail
    refine (sSkyValid_any _ _ _ _ hown.rd hle (by simp)).mono ?_; rintro e w' ⟨rfl, rfl⟩
    go_wp2
    go_ret2
    rw [HF.out]
    exact RetInts.empty _ _ (hbel.alloc hbel.size _)
  | true =>
    have hf : skyFold a b = (fol a b, true) := by simp [skyFold, va, vb, vs]
    have HF := Lib.hid hf
    clear hf
    go_wp2_with fail
    refine (sSkyValid_any _ _ _ _ hown.rd hle (by simp)).mono ?_; rintro e w' ⟨rfl, rfl⟩
    go_wp2_with fail
    refine (l21Fold_any _ _ _ _ _ _ _ (ha.below hbel (Nat.le_refl _)) (hb.below hbel (Nat.le_refl _)) va vb rfl rfl).mono ?_
    rintro e w2 ⟨A2, rfl, hown2, hbel2⟩
    go_wp2
    go_ret2
    rw [HF.out]
    exact ⟨A2, 16, by simp, by simp, hown2.mono hbel.size (Nat.le_refl _), bel_trans hbel hbel2⟩
end Go.Proofs.Ythlhojbbecioaaa
