/-
  What is drawn for flags.
-/
import Derived.Test.YtopneihamefohaaDrawVis
import Derived.Test.YtopneihamefohaaBools
namespace Go.Proofs.Ytopneihamefohaa
set_option linter.unusedVariables false
open Go.RowKit

theorem bools_append (xs ys : List Bool) : bools (xs ++ ys) = bools xs ++ bools ys := by simp [bools]
theorem one_bool (x : Bool) : ∀ u ∈ [Value.bool x], u.oneCell' = true := by simp [Value.oneCell']
/-- a list of bools in the drawing -/
def BW (w wr : World) (g P : Nat) (v : Value) (O : List Bool) : Prop :=
  wr.ownsRow w.heap.size 4 1 v O.length (bools O) ∧ Rdr wr g P ∧ Only w wr g (g + 1)
theorem BW.pick {w wr w1 : World} {g P Q : Nat} {v : Value} {O : List Bool} (h : BW w wr g P v O) (hg : g < w.heap.size) (hr : Rdr w1 g Q) (ho : Only wr w1 g (g + 1)) : BW w w1 g Q v O :=
  ⟨own_same h.1 (fun q hq => ho.2.2.2.2 q (h.1.lt q hq).2 (.inr (by have := (h.1.lt q hq).1; omega))), hr, h.2.2.trans ho⟩
theorem BW.app {w wr w1 : World} {g P : Nat} {v v' : Value} {O : List Bool} {x : Bool} {o : Obj} {m : Nat} (h : BW w wr g P v O) (hg : g < w.heap.size) (hm : m = O.length + 1)
    (hown : w1.ownsRow w.heap.size 4 1 v' m (bools O ++ [.bool x])) (hgr : (wr.alloc o).grownBy w1 v.ownBlock) : BW w w1 g P v' (O ++ [x]) := by
  subst hm
  have hb : Below w.heap.size wr w1 := ((Below.refl w.heap.size wr).alloc h.2.2.size o).grown hgr (base_a h.2.2.size) (fun q hq => (h.1.lt q hq).1)
  refine ⟨by simpa [bools_append, bools] using hown, h.2.1.below hb hg, ?_⟩
  exact (h.2.2.alloc o).grown hgr (fun q hq => (h.1.lt q hq).1)
theorem BW.start {w : World} {g P : Nat} (h : Rdr w g P) : BW w (w.alloc (.cells #[] 4)) g P (.slice (some ⟨w.heap.size, 0, none⟩) 0 0) [] :=
  ⟨World.ownsRow_made w #[] 0 (Nat.le_refl _) (by simp [maxLen]) rfl, h.below ((Below.refl w.heap.size w).alloc (Nat.le_refl _) _) h.lt, (Only.refl _ _ _).alloc _⟩
theorem BW.row {w wr : World} {g P : Nat} {v : Value} {O : List Bool} (h : BW w wr g P v O) : ∃ A c, v = .slice A O.length c ∧ O.length ≤ c ∧ Ow wr 4 w.heap.size wr.heap.size A (bools O) ∧ Rdr wr g P ∧ Only w wr g (g + 1) := by
  obtain ⟨A, c, rfl, hc, _⟩ := own_shape h.1
  exact ⟨A, c, rfl, hc, Ow.of_own h.1, h.2⟩
theorem BW.more {w wr : World} {g P Q : Nat} {v : Value} {O : List Bool} (h : BW w wr g P v O) (hq : P ≤ Q) : BW w wr g Q v O := ⟨h.1, h.2.1.mono hq, h.2.2⟩
/-- some bools in new memory -/
def DrewB (w : World) (g P : Nat) (e : Ending) (w' : World) : Prop :=
  ∃ (A : Option Addr) (c : Nat) (O : List Bool), e = .returned (.slice A O.length c) ∧ O.length ≤ 50 ∧ O.length ≤ c ∧ Ow w' 4 w.heap.size w'.heap.size A (bools O) ∧ Rdr w' g (P + 200) ∧ Only w w' g (g + 1)

set_option maxHeartbeats 2000000 in
theorem l92Flags_any (g P N : Nat) (w : World) (h : Rdr w g P) (hP : P ≤ 700000) (n2 : 2 ≤ N) (n7 : N ≤ 7) :
    Calls Try.prog 55 #[.pointer (some ⟨g, 0, none⟩), .int .i64 (N : Int)] w (DrewB w g P) := by
  have hg := h.lt
  have hst := Lib.hid (BW.start h)
  have hnb := nb_le n7
  have HB := Lib.hid (bm_nat n2 n7)
  obtain ⟨i0, hi, hz0, hz1, hz2⟩ := info_parts info_bool
  go_enter Try.func55, Try.ntmps55
  go_wp2_with fail
  refine (pick_any _ _ _ _ hst.out.2.1 (by omega) (by omega)).mono ?_
  rintro e w1 ⟨x, rfl, x0, x1, hr1, ho1, hs1⟩
  have x2 := x1 (by omega)
  have hst1 := Lib.hid (hst.out.pick hg hr1 ho1)
  clear hst x1 ho1 hr1 hs1
  go_wp2
  go_loopw [5, 7] (fun v i wr => ∃ (k : Nat) (O : List Bool), k ≤ nb N ∧ i = .int .i64 k ∧ O.length = k ∧ BW w wr g (P + 1 + k) v O) (fun _ i _ => nb N - (intOf i).toNat)
  case atStart => exact ⟨0, [], Nat.zero_le _, rfl, rfl, hst1.out⟩
  case round =>
    clear hst1
    obtain ⟨k, O, hk, rfl, rfl, hv⟩ := hrel
    by_cases hlt : O.length < nb N
    · have HV := Lib.hid hv
      have d1 : decide ((O.length : Int) < (nb N : Int)) = true := by simp; omega
      have i1 : (O.length : Int) < (nb N : Int) := by omega
      clear hv
      go_wp2_with fail
      refine (sBaseMany_any _ _).mono ?_; rintro e w' ⟨rfl, rfl⟩
      rw [HB.out]
      go_wp2_with fail
      refine (pick_any _ _ _ _ HV.out.2.1 (by omega) (by omega)).mono ?_
      rintro e w2 ⟨y, rfl, y0, y1, hr2, ho2, hs2⟩
      have H2 := Lib.hid (HV.out.pick hg hr2 ho2)
      clear HV hr2 ho2 hs2 y1 d1
      have m1 := Lib.hid (show O.length + 1 ≤ maxLen by simp [maxLen]; omega)
      have m2 := Lib.hid (show (O.length + 1) * 1 ≤ 140737488355328 by omega)
      have m3 := Lib.hid (base_a (o := .cells #[.bool (y == 0)] 4) H2.out.2.2.size)
      go_wp2_with (at_builtin; refine wpList_append_lies _ rfl _ _ 27 rfl w.heap.size 4 i0 (.bool false) 1 1 Try.underlying27 hi hz0 hz1 hz2 rfl (by decide) _ O.length (bools O) rfl (H2.out.1.alloc _) ⟨w2.heap.size, 0, none⟩ 1 1 [.bool (y == 0)] rfl rfl (news_a _ _ _) (one_bool _) (by decide) m1.out m2.out m3.out _ rfl ?_; intro g' cap w3 hown1 hgrow hat hlt1)
      go_roundw
      case rel => exact ⟨O.length + 1, _, by omega, by go_num, by simp, (H2.out.app hg rfl hown1 hgrow).more (by omega)⟩
      case measure => simp [intOf]; omega
    · have el : O.length = nb N := by omega
      have EL := Lib.hid el
      have el1 := Nat.le_of_eq el
      have el2 := Nat.le_of_eq el.symm
      clear el
      have d1 : decide ((O.length : Int) < (nb N : Int)) = false := by simp; omega
      have HV := Lib.hid hv
      clear hv
      go_wp2_with fail
      refine (sBaseMany_any _ _).mono ?_; rintro e w' ⟨rfl, rfl⟩
      rw [HB.out]
      go_wp2_with fail
      refine (pick_any _ _ _ _ HV.out.2.1 (by omega) (by omega)).mono ?_
      rintro e w2 ⟨y, rfl, y0, y1, hr2, ho2, hs2⟩
      have H2 := Lib.hid (HV.out.pick hg hr2 ho2)
      clear HV hr2 ho2 hs2 y1 d1
      by_cases hy : y = 0
      · subst hy
        have m1 := Lib.hid (show O.length + 1 ≤ maxLen by simp [maxLen]; omega)
        have m2 := Lib.hid (show (O.length + 1) * 1 ≤ 140737488355328 by omega)
        have m3 := Lib.hid (base_a (o := .cells #[.bool false] 4) H2.out.2.2.size)
        go_wp2_with (at_builtin; refine wpList_append_lies _ rfl _ _ 27 rfl w.heap.size 4 i0 (.bool false) 1 1 Try.underlying27 hi hz0 hz1 hz2 rfl (by decide) _ O.length (bools O) rfl (H2.out.1.alloc _) ⟨w2.heap.size, 0, none⟩ 1 1 [.bool false] rfl rfl (news_a _ _ _) (one_bool _) (by decide) m1.out m2.out m3.out _ rfl ?_; intro g' cap w3 hown1 hgrow hat hlt1)
        obtain ⟨A1, c1, e1, hc1, o1, hr3, ho3⟩ := (H2.out.app hg rfl hown1 hgrow).row
        have E1 := Lib.hid e1
        clear hown1 hgrow hat e1
        go_ret
        exact ⟨A1, c1, O ++ [false], by rw [← E1.out]; rfl, by simp; omega, hc1, o1, hr3.mono (by omega), ho3⟩
      · have e0 : (y == 0) = false := by simp [hy]
        obtain ⟨A1, c1, rfl, hc1, o1, hr3, ho3⟩ := H2.out.row
        go_wp2
        go_ret
        exact ⟨A1, c1, O, rfl, by omega, hc1, o1, hr3.mono (by omega), ho3⟩
/-- what is drawn for flags -/
def DrewF (w : World) (e : Ending) (w' : World) : Prop :=
  ∃ (n : Int) (A : Option Addr) (c : Nat) (fl : List Bool), e = .returned (.tuple #[.int .i64 n, .slice A fl.length c]) ∧ 1 ≤ n ∧ n ≤ 8 ∧ fl.length ≤ 50 ∧ fl.length ≤ c ∧ Ow w' 4 w.heap.size w'.heap.size A (bools fl) ∧ Below w.heap.size w w'
set_option maxHeartbeats 1000000 in
theorem DrawFlagLinked_any (A : Option Addr) (n c : Nat) (w : World) (h : Bytes w A n w.heap.size) (hc : n ≤ c) : Calls Try.prog 27 #[.slice A n c] w (DrewF w) := by
  go_enter Try.func27, Try.ntmps27
  go_wp2_with fail
  refine (l6Open_any _ _ _ _ h hc).mono ?_
  rintro e w1 ⟨rfl, hr, hb⟩
  have s1 := hb.size
  have hlt := hr.lt
  go_wp2_with fail
  refine (l91Ants_any _ _ _ hr (by omega)).mono ?_
  rintro e w2 ⟨N, rfl, n2, n6, hr2, ho2⟩
  have s2 := ho2.size
  replace hb := ho2.below hb (Nat.le_refl _) (Nat.le_refl _)
  clear ho2 hr
  go_wp2_with fail
  refine (pick_any _ _ 24 _ hr2 (by omega) (by omega)).mono ?_
  rintro e w3 ⟨x, rfl, x0, x1, hr3, ho3, hs3⟩
  have s3 := ho3.size
  replace hb := ho3.below hb (Nat.le_refl _) (Nat.le_refl _)
  clear ho3 hr2 hs3 x1
  by_cases hx : x = 0
  · subst hx
    have hr4 := Lib.hid (hr3.below ((Below.refl w3.heap.size w3).alloc (Nat.le_refl _) (.cells #[.int .i64 1, .int .i64 8] 3)) (by omega))
    have hb4 := Lib.hid (hb.alloc (by omega) (.cells #[.int .i64 1, .int .i64 8] 3))
    clear hr3 hb
    go_wp2_with fail
    refine (pick_any _ _ 2 _ hr4.out (by omega) (by omega)).mono ?_
    rintro e w4 ⟨y, rfl, y0, y1, hr5, ho5, hs5⟩
    have y2 := y1 (by omega)
    have s5 := ho5.size
    have hb5 := Lib.hid (ho5.below hb4.out (by omega) (Nat.le_refl _))
    obtain ⟨y, rfl⟩ := Int.eq_ofNat_of_zero_le y0
    obtain ⟨z, hz, hz2⟩ := two_of ho5 (by omega) (show y < 2 by omega)
    have hz3 : 1 ≤ z ∧ z ≤ 8 := by omega
    clear hb4 hr4 hr5 ho5 hs5 y1 hz2
    simp at s5
    go_wp2
    go_ret2
    exact ⟨z, some ⟨w4.heap.size, 0, none⟩, 0, [], rfl, hz3.1, hz3.2, by simp, by simp, Ow.none_, hb5.out.alloc (by omega) _⟩
  · have e0 : (x == 0) = false := by simp [hx]
    go_wp2_with fail
    refine (l92Flags_any _ _ N _ hr3 (by omega) n2 (by omega)).mono ?_
    rintro e w4 ⟨A1, c1, O, rfl, l1, l2, o, hr4, ho4⟩
    replace hb := ho4.below hb (Nat.le_refl _) (Nat.le_refl _)
    go_wp2
    go_ret2
    exact ⟨(N : Int), A1, c1, O, rfl, by omega, by omega, l1, l2, o.mono (by omega) (Nat.le_refl _), hb⟩
theorem DrawFlagLoops_any (A : Option Addr) (n c : Nat) (w : World) (h : Bytes w A n w.heap.size) (hc : n ≤ c) : Calls Try.prog 40 #[.slice A n c] w (DrewF w) := by
  go_enter Try.func40, Try.ntmps40
  go_wp2_with fail
  refine (DrawFlagLinked_any _ _ _ _ h hc).mono ?_
  rintro e w1 ⟨m, A1, c1, fl, rfl, r1, r2, r3, r4, o, hb⟩
  go_wp2
  go_ret2
  exact ⟨m, A1, c1, fl, rfl, r1, r2, r3, r4, o, hb⟩
end Go.Proofs.Ytopneihamefohaa
