/-
  What is drawn for solving: two lists of visibilities.
-/
import Derived.Test.YtpdekpeknnlfmaaDrawCamp
import Derived.Test.YtpdekpeknnlfmaaDrawRemove
namespace Go.Proofs.Ytpdekpeknnlfmaa
set_option linter.unusedVariables false
open Go.RowKit

/-- two lists in new memory; the reader goes on -/
def DrewTwo (w : World) (g P least : Nat) (e : Ending) (w' : World) : Prop :=
  ∃ (N : Nat) (A B : Option Addr) (c d : Nat) (ps qs : List (Int × Int)), e = .returned (.tuple #[.int .i64 (N : Int), .slice A ps.length c, .slice B qs.length d]) ∧ least ≤ N ∧ N ≤ 6 ∧ 1 ≤ ps.length ∧ ps.length ≤ 50 ∧ qs.length ≤ 50 ∧
    Ow w' 32 w.heap.size w'.heap.size A (pairs ps) ∧ Ow w' 32 w.heap.size w'.heap.size B (pairs qs) ∧ Rdr w' g (P + 600) ∧ Only w w' g (g + 1)
theorem gainApply_ok_len {N : Nat} {ls gs : List (Int × Int)} (h : (gainApply (N : Int) ls gs).2 = true) : (gainApply (N : Int) ls gs).1.length = nb N := by
  rw [(apply_ok h).2.2.2]; simp

set_option maxHeartbeats 2000000 in
theorem l92Applied_any (g P m : Nat) (w : World) (h : Rdr w g P) (hP : P ≤ 600000) (m2 : 2 ≤ m) (m6 : m ≤ 6) :
    Calls Try.prog 46 #[.pointer (some ⟨g, 0, none⟩), .int .i64 (m : Int)] w (DrewTwo w g P m) := by
  have hg := h.lt
  go_enter Try.func46, Try.ntmps46
  go_wp2_with fail
  refine (l92Many_any g P m w h (by omega) m2 m6).mono ?_
  rintro e w1 ⟨N, A1, c1, ps, rfl, n2, n6, l1, l2, lc, o1, hr1, ho1⟩
  have s1 := ho1.size
  have hnb := nb_le (show N ≤ 7 by omega)
  have hnp := nb_pos (show 2 ≤ N by omega) (show N ≤ 7 by omega)
  go_wp2_with fail
  refine (l91Gains_any g _ N w1 hr1 (by omega) (by omega) (by omega)).mono ?_
  rintro e w2 ⟨A2, c2, gs, rfl, k1, k2, kc, o2, hr2, ho2⟩
  have s2 := ho2.size
  replace o1 := o1.only ho2 (.inr (by omega))
  replace ho1 := ho1.trans ho2
  clear ho2 hr1
  go_wp2_with fail
  refine (sGainApply_any (N : Int) A1 A2 c1 c2 ps gs w2 o1.rd o2.rd (by omega) (by omega) rfl rfl).mono ?_
  rintro e w3 ⟨A3, c3, rfl, cl3, o3, b3⟩
  have s3 := b3.size
  replace hr2 := hr2.below b3 (by omega)
  replace ho1 := ho1.trans (Only.of_below b3 g (g + 1))
  replace o1 := o1.below b3 (by omega)
  clear b3 o2
  cases hok : (gainApply (N : Int) ps gs).2 with
  | false =>
    go_wp2_with fail
    refine (l91Vis_any g _ N w3 hr2 (by omega) (by omega) (by omega)).mono ?_
    rintro e w4 ⟨A4, c4, qs, rfl, j1, j2, jc, o4, hr4, ho4⟩
    have s4 := ho4.size
    replace o1 := o1.only ho4 (.inr (by omega))
    replace ho1 := ho1.trans ho4
    clear ho4 hr2 o3
    go_wp2
    go_ret3
    exact ⟨N, A4, A1, c4, c1, qs, ps, rfl, n2, n6, j1, by omega, l2, o4.mono (by omega) (Nat.le_refl _), o1.mono (by omega) (by omega), hr4.mono (by omega), ho1⟩
  | true =>
    have hl := gainApply_ok_len hok
    generalize (gainApply (N : Int) ps gs).1 = L at *
    clear hok
    have L1 : 1 ≤ L.length := by omega
    have L2 : L.length ≤ 50 := by omega
    clear hl
    go_wp2_with fail
    refine (pick_any g _ 8 w3 hr2 (by omega) (by omega)).mono ?_
    rintro e w4 ⟨x, rfl, x0, x1, hr4, ho4, hs4⟩
    have s4 := ho4.size
    replace o1 := o1.only ho4 (.inr (by omega))
    replace o3 := o3.only ho4 (.inr (by omega))
    replace ho1 := ho1.trans ho4
    clear ho4 hr2 hs4 x1
    by_cases hx0 : x = 0
    · subst hx0
      go_wp2_with fail
      refine (pick_any g _ _ w4 hr4 (by omega) (by omega)).mono ?_
      rintro e w5 ⟨y, rfl, y0, y1, hr5, ho5, hs5⟩
      have s5 := ho5.size
      have y2 := y1 (by omega)
      obtain ⟨y, rfl⟩ := Int.eq_ofNat_of_zero_le y0
      replace o1 := o1.only ho5 (.inr (by omega))
      replace o3 := o3.only ho5 (.inr (by omega))
      replace ho1 := ho1.trans ho5
      clear ho5 hr4 hs5 y1
      go_wp2_with fail
      refine (l91Phase_any g _ w5 hr5 (by omega)).mono ?_
      rintro e w6 ⟨z, rfl, z0, z1, hr6, ho6⟩
      have s6 := ho6.size
      replace o1 := o1.only ho6 (.inr (by omega))
      replace o3 := o3.only ho6 (.inr (by omega))
      replace ho1 := ho1.trans ho6
      clear ho6 hr5
      obtain ⟨b, off, rfl, q1, q2, q3, kc1, kc2, kf1, kf2, _, ksx, ksy⟩ := o3.pair_at (k := y) (by omega)
      have KY := Lib.hid (ksy z)
      have O1 := Lib.hid (o1.only ((Only.refl w6 b (b + 1)).setCell (p := ⟨b, off + y * 2 + 1, none⟩) (Nat.le_refl _) (by simp) (.int .i64 z)) (.inl (by omega)))
      have R1 := Lib.hid (hr6.only ((Only.refl w6 b (b + 1)).setCell (p := ⟨b, off + y * 2 + 1, none⟩) (Nat.le_refl _) (by simp) (.int .i64 z)) (by omega))
      have HO := Lib.hid (ho1.setNew (p := ⟨b, off + y * 2 + 1, none⟩) (by show w.heap.size ≤ b; omega) (.int .i64 z))
      clear ksx ksy o1 o3 hr6 ho1
      go_wp2
      go_ret3
      exact ⟨N, _, A1, c3, c1, L.set y (g1 L y, z), ps, by rw [List.length_set]; rfl, n2, n6, by simp; omega, by simp; omega, l2, KY.out.mono (by omega) (by simp [World.setCell]; omega), O1.out.mono (by omega) (by simp [World.setCell]; omega), R1.out.mono (by omega), HO.out⟩
    by_cases hx1 : x = 1
    · subst hx1
      go_wp2_with fail
      refine (pick_any g _ _ w4 hr4 (by omega) (by omega)).mono ?_
      rintro e w5 ⟨y, rfl, y0, y1, hr5, ho5, hs5⟩
      have s5 := ho5.size
      have y2 := y1 (by omega)
      obtain ⟨y, rfl⟩ := Int.eq_ofNat_of_zero_le y0
      replace o1 := o1.only ho5 (.inr (by omega))
      replace o3 := o3.only ho5 (.inr (by omega))
      replace ho1 := ho1.trans ho5
      clear ho5 hr4 hs5 y1
      obtain ⟨b, off, rfl, q1, q2, q3, kc1, kc2, kf1, kf2, _, ksx, ksy⟩ := o3.pair_at (k := y) (by omega)
      have KX := Lib.hid (ksx (wrap64 (g1 L y + 1)))
      have O1 := Lib.hid (o1.only ((Only.refl w5 b (b + 1)).setCell (p := ⟨b, off + y * 2, none⟩) (Nat.le_refl _) (by simp) (.int .i64 (wrap64 (g1 L y + 1)))) (.inl (by omega)))
      have R1 := Lib.hid (hr5.only ((Only.refl w5 b (b + 1)).setCell (p := ⟨b, off + y * 2, none⟩) (Nat.le_refl _) (by simp) (.int .i64 (wrap64 (g1 L y + 1)))) (by omega))
      have HO := Lib.hid (ho1.setNew (p := ⟨b, off + y * 2, none⟩) (by show w.heap.size ≤ b; omega) (.int .i64 (wrap64 (g1 L y + 1))))
      clear ksx ksy o1 o3 hr5 ho1
      go_wp2
      go_ret3
      exact ⟨N, _, A1, c3, c1, L.set y (wrap64 (g1 L y + 1), g2 L y), ps, by rw [List.length_set]; rfl, n2, n6, by simp; omega, by simp; omega, l2, KX.out.mono (by omega) (by simp [World.setCell]; omega), O1.out.mono (by omega) (by simp [World.setCell]; omega), R1.out.mono (by omega), HO.out⟩
    · have d0 : (x == 0) = false := by simp [hx0]
      have d1 : (x == 1) = false := by simp [hx1]
      go_wp2
      go_ret3
      exact ⟨N, A3, A1, c3, c1, L, ps, rfl, n2, n6, L1, L2, l2, o3.mono (by omega) (by omega), o1.mono (by omega) (by omega), hr4.mono (by omega), ho1⟩
set_option maxHeartbeats 2000000 in
theorem DrawSolveAmps_any (A : Option Addr) (n c : Nat) (w : World) (h : Bytes w A n w.heap.size) (hc : n ≤ c) : Calls Try.prog 15 #[.slice A n c] w (DrewN2 w id id id id) := by
  go_enter Try.func15, Try.ntmps15
  go_wp2_with fail
  refine (l6Open_any _ _ _ _ h hc).mono ?_
  rintro e w1 ⟨rfl, hr, hb⟩
  have s1 := hb.size
  have hlt := hr.lt
  go_wp2_with fail
  refine (pick_any _ _ 16 _ hr (by omega) (by omega)).mono ?_
  rintro e w2 ⟨x, rfl, x0, x1, hr2, ho2, hs2⟩
  have s2 := ho2.size
  replace hb := ho2.below hb (Nat.le_refl _) (Nat.le_refl _)
  clear ho2 hr hs2
  by_cases hx : x = 0
  · subst hx
    go_wp2_with fail
    refine (l92Applied_any _ _ 2 _ hr2 (by omega) (by omega) (by omega)).mono ?_
    rintro e w3 ⟨N, A1, A2, c1, c2, ps, qs, rfl, n2, n6, l1, l2, k2, oa, ob, hr3, ho3⟩
    have s3 := ho3.size
    replace hb := ho3.below hb (Nat.le_refl _) (Nat.le_refl _)
    clear ho3 hr2 hr3
    go_wp2
    go_ret3
    exact ⟨N, A1, A2, c1, c2, ps, qs, rfl, n2, n6, l2, k2, oa.mono (by omega) (Nat.le_refl _), ob.mono (by omega) (Nat.le_refl _), hb⟩
  · have d0 : (x == 0) = false := by simp [hx]
    go_wp2_with fail
    refine (l92Applied_any _ _ 3 _ hr2 (by omega) (by omega) (by omega)).mono ?_
    rintro e w3 ⟨N, A1, A2, c1, c2, ps, qs, rfl, n2, n6, l1, l2, k2, oa, ob, hr3, ho3⟩
    have s3 := ho3.size
    replace hb := ho3.below hb (Nat.le_refl _) (Nat.le_refl _)
    clear ho3 hr2 hr3
    go_wp2
    go_ret3
    exact ⟨N, A1, A2, c1, c2, ps, qs, rfl, by omega, n6, l2, k2, oa.mono (by omega) (Nat.le_refl _), ob.mono (by omega) (Nat.le_refl _), hb⟩
end Go.Proofs.Ytpdekpeknnlfmaa
