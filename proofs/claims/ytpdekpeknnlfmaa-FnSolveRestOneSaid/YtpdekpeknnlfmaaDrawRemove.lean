/-
  What is drawn for GainRemove.
-/
import Derived.Test.YtpdekpeknnlfmaaDrawApply
namespace Go.Proofs.Ytpdekpeknnlfmaa
set_option linter.unusedVariables false
open Go.RowKit

theorem Bytes.up {w : World} {A : Option Addr} {n hi hi' : Nat} (h : Bytes w A n hi) (hh : hi ≤ hi') : Bytes w A n hi' := fun h0 => by
  obtain ⟨b, off, e, hb, r⟩ := h h0
  exact ⟨b, off, e, by omega, r⟩
theorem gainApply_short {N : Nat} (h7 : N ≤ 7) (ls gs : List (Int × Int)) : (gainApply (N : Int) ls gs).1.length ≤ 50 := by
  unfold gainApply
  split
  · have := nb_le h7
    simp; omega
  · simp
set_option maxHeartbeats 2000000 in
theorem DrawGainRemove_any (A : Option Addr) (n c : Nat) (w : World) (h : Bytes w A n w.heap.size) (hc : n ≤ c) : Calls Try.prog 40 #[.slice A n c] w (DrewN2 w id id id id) := by
  go_enter Try.func40, Try.ntmps40
  go_wp2_with fail
  refine (l6Open_any _ _ _ _ h hc).mono ?_
  rintro e w1 ⟨rfl, hr, hb⟩
  have s1 := hb.size
  have hlt := hr.lt
  go_wp2_with fail
  refine (DrawGainApply_any _ _ _ _ ((h.below hb (Nat.le_refl _)).up s1) hc).mono ?_
  rintro e w2 ⟨N, A1, A2, c1, c2, as_, bs, rfl, n2, n6, la, lb, oa, ob, b2⟩
  have s2 := b2.size
  replace hr := hr.below b2 hlt
  replace hb := bel_trans hb b2
  clear b2
  go_wp2_with fail
  refine (sGainApply_any _ _ _ _ _ _ _ _ oa.rd ob.rd (by omega) (by omega) rfl rfl).mono ?_
  rintro e w3 ⟨A3, c3, rfl, cl3, oc, b3⟩
  have s3 := b3.size
  replace hr := hr.below b3 (by omega)
  replace hb := bel_trans hb b3
  replace oa := oa.below b3 (Nat.le_refl _)
  replace ob := ob.below b3 (Nat.le_refl _)
  clear b3
  have l3 := gainApply_short (show N ≤ 7 by omega) as_ bs
  cases hok : (gainApply (N : Int) as_ bs).2 with
  | false =>
    go_wp2
    go_ret3
    exact ⟨N, A1, A2, c1, c2, as_, bs, rfl, n2, n6, la, lb, oa.mono s1 s3, ob.mono s1 s3, hb⟩
  | true =>
    go_wp2_with fail
    refine (pick_any _ _ 4 _ hr (by omega) (by omega)).mono ?_
    rintro e w4 ⟨x, rfl, x0, x1, hr4, ho4, hs4⟩
    have s4 := ho4.size
    replace oa := oa.only ho4 (.inr (by omega))
    replace ob := ob.only ho4 (.inr (by omega))
    replace oc := oc.only ho4 (.inr (by omega))
    replace hb := ho4.below hb (Nat.le_refl _) (Nat.le_refl _)
    clear ho4 hr4 hs4 hr
    by_cases hx : 0 < x
    · have hx' : decide (0 < x) = true := by simp [hx]
      go_wp2
      go_ret3
      exact ⟨N, A3, A2, c3, c2, _, bs, rfl, n2, n6, l3, lb, oc.mono (by omega) (by omega), ob.mono s1 (by omega), hb⟩
    · have hx' : decide (0 < x) = false := by simp [hx]
      go_wp2
      go_ret3
      exact ⟨N, A1, A2, c1, c2, as_, bs, rfl, n2, n6, la, lb, oa.mono s1 (by omega), ob.mono s1 (by omega), hb⟩
end Go.Proofs.Ytpdekpeknnlfmaa
