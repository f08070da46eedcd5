/-
  What is drawn for GainApply and for GainRemove.
-/
import Derived.Test.YtpdekpeknnlfmaaDrawVis
import Derived.Test.YtpdekpeknnlfmaaApplyS
namespace Go.Proofs.Ytpdekpeknnlfmaa
set_option linter.unusedVariables false
open Go.RowKit

set_option maxHeartbeats 2000000 in
theorem DrawGainApply_any (A : Option Addr) (n c : Nat) (w : World) (h : Bytes w A n w.heap.size) (hc : n ≤ c) : Calls Try.prog 36 #[.slice A n c] w (DrewN2 w id id id id) := by
  go_enter Try.func36, Try.ntmps36
  go_wp2_with fail
  refine (l6Open_any _ _ _ _ h hc).mono ?_
  rintro e w1 ⟨rfl, hr, hb⟩
  go_wp2_with fail
  refine (l91Ants_any _ _ _ hr (by omega)).mono ?_
  rintro e w2 ⟨N, rfl, n2, n6, hr2, ho2⟩
  have s1 := hb.size
  have s2 := ho2.size
  have hlt := hr.lt
  replace hb := ho2.below hb (Nat.le_refl _) (Nat.le_refl _)
  clear ho2 hr
  go_wp2_with fail
  refine (l91Vis_any _ _ N _ hr2 (by omega) n2 (by omega)).mono ?_
  rintro e w3 ⟨A1, c1, as_, rfl, la1, la2, lc1, oa, hr3, ho3⟩
  have s3 := ho3.size
  have hnb := nb_le (show N ≤ 7 by omega)
  replace hb := ho3.below hb (Nat.le_refl _) (Nat.le_refl _)
  clear ho3 hr2
  go_wp2_with fail
  refine (l91Gains_any _ _ N _ hr3 (by omega) n2 (by omega)).mono ?_
  rintro e w4 ⟨A2, c2, bs, rfl, lb1, lb2, lc2, ob, hr4, ho4⟩
  have s4 := ho4.size
  replace oa := oa.only ho4 (.inr (by omega))
  replace hb := ho4.below hb (Nat.le_refl _) (Nat.le_refl _)
  clear ho4 hr3
  go_wp2_with fail
  refine (pick_any _ _ 24 _ hr4 (by omega) (by omega)).mono ?_
  rintro e w5 ⟨x, rfl, x0, x1, hr5, ho5, hs5⟩
  have s5 := ho5.size
  replace oa := oa.only ho5 (.inr (by omega))
  replace ob := ob.only ho5 (.inr (by omega))
  replace hb := ho5.below hb (Nat.le_refl _) (Nat.le_refl _)
  clear ho5 hr4 hs5 hr5 x1
  by_cases hx : x = 0
  · subst hx
    by_cases hl : 1 < bs.length
    · have hl' : (1 : Int) < (bs.length : Int) := by omega
      have hl0 : (0 : Int) < (bs.length : Int) := by omega
      have hla : (0 : Int) < (as_.length : Int) := by omega
      obtain ⟨b1, f1, rfl, p1, p2, p3, cc1, _, fr1, _, _, st1, _⟩ := ob.pair_at (k := 0) (by omega)
      have ob2 := st1 99
      have oa2 := Lib.hid (oa.only ((Only.refl w5 b1 (b1 + 1)).setCell (p := ⟨b1, f1 + 0 * 2, none⟩) (Nat.le_refl _) (by simp) (.int .i64 99)) (.inl (by omega)))
      have hb2 := Lib.hid (hb.setCell (p := ⟨b1, f1 + 0 * 2, none⟩) (by simp; omega) (.int .i64 99))
      obtain ⟨b2, f2, e, q1, q2, q3, cc2, _, fr2, _, _, st2, _⟩ := ob2.pair_at (k := 1) (by simp; omega)
      injection e with e
      injection e with e1 e2
      subst e1 e2
      have ob3 := Lib.hid (st2 99)
      have oa3 := oa2.out.only ((Only.refl _ b1 (b1 + 1)).setCell (p := ⟨b1, f1 + 1 * 2, none⟩) (Nat.le_refl _) (by simp) (.int .i64 99)) (.inl (by omega))
      have hb3 := Lib.hid (hb2.out.setCell (p := ⟨b1, f1 + 1 * 2, none⟩) (by simp; omega) (.int .i64 99))
      obtain ⟨b3, f3, rfl, r1, r2, r3, c3, _, fr3, _, _, st3, _⟩ := oa3.pair_at (k := 0) (by omega)
      have oa4 := Lib.hid (st3 500)
      have ob4 := Lib.hid (ob3.out.only ((Only.refl _ b3 (b3 + 1)).setCell (p := ⟨b3, f3 + 0 * 2, none⟩) (Nat.le_refl _) (by simp) (.int .i64 500)) (.inr (by omega)))
      have hb4 := Lib.hid (hb3.out.setCell (p := ⟨b3, f3 + 0 * 2, none⟩) (by simp; omega) (.int .i64 500))
      simp only [Nat.zero_mul, Nat.add_zero, Nat.one_mul] at cc1 fr1 cc2 fr2 c3 fr3
      have OA := Lib.hid (oa4.out.mono (Nat.le_trans s1 s2) (show w3.heap.size ≤ w5.heap.size by omega))
      have OB := Lib.hid (ob4.out.mono (show w.heap.size ≤ w3.heap.size by omega) (show w4.heap.size ≤ w5.heap.size by omega))
      have HB := Lib.hid hb4.out
      clear st1 st2 st3 oa ob oa3 ob2 hb oa2 hb2 ob3 hb3 oa4 ob4 hb4
      go_wp2
      go_ret3
      exact ⟨N, some ⟨b3, f3, none⟩, some ⟨b1, f1, none⟩, c1, c2, as_.set 0 (500, g2 as_ 0), (bs.set 0 (99, g2 bs 0)).set 1 (99, g2 (bs.set 0 (99, g2 bs 0)) 1), by simp, n2, n6, by simp; omega, by simp; omega, by simpa using OA.out, by simpa using OB.out, by simpa using HB.out⟩
    · have hl' : ¬ (1 : Int) < (bs.length : Int) := by omega
      go_wp2
      go_ret3
      exact ⟨N, A1, A2, c1, c2, as_, bs, rfl, n2, n6, by omega, by omega, oa.mono (by omega) (by omega), ob.mono (by omega) (by omega), hb⟩
  · have e0 : (x == 0) = false := by simp [hx]
    go_wp2
    go_ret3
    exact ⟨N, A1, A2, c1, c2, as_, bs, rfl, n2, n6, by omega, by omega, oa.mono (by omega) (by omega), ob.mono (by omega) (by omega), hb⟩

end Go.Proofs.Ytpdekpeknnlfmaa
