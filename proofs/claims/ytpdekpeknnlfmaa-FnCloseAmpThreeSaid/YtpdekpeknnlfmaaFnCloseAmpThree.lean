/- Three closure amplitudes make 1. For every input; each argument reads afterwards as it read before. -/
import Derived.Test.YtpdekpeknnlfmaaFrame
import Derived.Test.YtpdekpeknnlfmaaCampA
import Derived.Test.YtpdekpeknnlfmaaDrawCamp
namespace Go.Proofs.Ytpdekpeknnlfmaa.fnCloseAmpThree
open Go.ChangeShapes Go.WideShapes Go.ChangeAt Go.RowKit Go.Deep
set_option linter.unusedVariables false

set_option maxHeartbeats 4000000 in
set_option maxRecDepth 100000 in
theorem walk (w : World) (a0 : Option Addr) (len0 cap0 : Nat) (h0 : Bytes w a0 len0 w.heap.size) (k0 : len0 ≤ cap0) :
    Calls Try.prog 8 #[.slice a0 len0 cap0] w fun e w' => e = .returned (.bool true) ∧ Below w.heap.size w w' := by
  by_cases gl0 : len0 ≤ 1048576
  case neg =>
    go_enter Try.func8, Try.ntmps8
    go_wp2
    go_ret
    exact ⟨rfl, Below.refl _ _⟩
  case pos =>
    have B := Below.refl w.heap.size w
    go_enter Try.func8, Try.ntmps8
    go_wp2_with fail
    refine (DrawCloseAmp_any _ _ _ _ h0 k0).mono ?_
    rintro e w1 ⟨N, A, c, ps, i, j, k, l, rfl, n4, n6, lp, o, b1⟩
    have s1 := b1.size
    replace B := bel_trans B b1
    clear b1
    go_wp2_with fail
    refine (CloseAmp_any _ _ _ _ _ _ _ _ _ o.rd (by omega) rfl).mono ?_
    rintro e w2 ⟨rfl, b2⟩
    have s2 := b2.size
    replace B := bel_trans B b2
    replace o := o.below b2 (by omega)
    clear b2
    go_wp2_with fail
    refine (sCloseAmp_any _ _ _ _ _ _ _ _ _ o.rd (by omega) rfl).mono ?_
    rintro e w3 ⟨rfl, b3⟩
    have s3 := b3.size
    replace B := bel_trans B b3
    replace o := o.below b3 (by omega)
    clear b3
    cases hok : (closeAmp (N : Int) ps i j k l).2 with
    | false =>
      go_wp2
      go_ret
      exact ⟨rfl, B⟩
    | true =>
    obtain ⟨p1, p2, p3⟩ := camp_three hok
    have P3 := Lib.hid (three_wrap p3)
    have P1 := Lib.hid p1
    have P2 := Lib.hid p2
    clear p1 p2 p3
    go_wp2_with fail
    refine (CloseAmp_any _ _ _ _ _ _ _ _ _ o.rd (by omega) rfl).mono ?_
    rintro e w4 ⟨rfl, b4⟩
    have s4 := b4.size
    replace B := bel_trans B b4
    replace o := o.below b4 (by omega)
    clear b4
    rw [P1.out]
    go_wp2_with fail
    refine (CloseAmp_any _ _ _ _ _ _ _ _ _ o.rd (by omega) rfl).mono ?_
    rintro e w5 ⟨rfl, b5⟩
    have s5 := b5.size
    replace B := bel_trans B b5
    replace o := o.below b5 (by omega)
    clear b5
    rw [P2.out]
    generalize (closeAmp (N : Int) ps i j k l).1.1 = x1 at *
    generalize (closeAmp (N : Int) ps i j k l).1.2 = x2 at *
    generalize (closeAmp (N : Int) ps i k l j).1.1 = x3 at *
    generalize (closeAmp (N : Int) ps i k l j).1.2 = x4 at *
    generalize (closeAmp (N : Int) ps i l j k).1.1 = x5 at *
    generalize (closeAmp (N : Int) ps i l j k).1.2 = x6 at *
    go_wp2
    go_ret
    exact ⟨ret_bool P3.out, B⟩

set_option maxRecDepth 100000 in
theorem lifted (os : Os) (started : os.Started) (H : Type) (enc : TypeId × Value → H) :
    ReturnsInHanded {} Try.checked os 8 .any (Rows.fnCloseAmpThreeSpec.pre6 enc Try.prog Try.f8 Rows.fnCloseAmpThreeRow.domain false) (Rows.fnCloseAmpThreeSpec.post enc Try.prog Try.f8 false true false false) := by
  refine returnsInHanded_of_change (C := Try.checked) own started (by kernel_rfl) Try.func8
    (ChangeSpec.witness6 (enc := enc) (C := Try.checked) false ⟨#[], #[.slice none 0 0], []⟩ 8 (by kernel_rfl) (by kernel_rfl) (by kernel_rfl) (by kernel_rfl)) ?_
  intro W base args ds gs before hval0 hW hcnd _
  have hval : ∀ (j : Nat) t v, Try.f8.params[j]? = some t → args[j]? = some v → Value.okWide Try.prog W .any base t v := hval0
  have hW' := hW
  obtain ⟨p, q, hA0, hV, rfl, hfz, hnd⟩ := hW
  have hA : DataW.TrodAll enc Try.prog W 0 (fun _ => true) true Try.f8.params.toList args.toList ds p := hA0
  rw [Try.params8] at hA hval
  obtain ⟨v0, vs0, d0, ds0, p0, q0, hargs, rfl, rfl, h0, r0⟩ := trodAll_cons hA
  obtain ⟨rfl, rfl, rfl⟩ := trodAll_nil r0
  obtain rfl : args = #[v0] := by cases args; simp_all
  obtain ⟨rfl, rfl⟩ := trodVars_none hV
  obtain ⟨a0, len0, cap0, rfl⟩ := okWide_slice Try.underlying22 (hval 0 22 v0 rfl rfl)
  have k0 := h0
  have lt0 : ∀ x ∈ p0, x.block < W.heap.size := by obtain ⟨m, hm⟩ := k0; exact DataW.trod_lt m _ _ _ hm
  obtain ⟨z0, n0, u0, f0, c0⟩ := in_ints Try.underlying22 Try.underlying5 (by kernel_rfl) h0
  have w0 := Rd.bytes u0 n0 f0
  clear hA0 hval0
  refine (walk W a0 len0 cap0 w0 c0).mono fun e W' ⟨he, bel⟩ => ?_
  subst he
  exact ⟨_, rfl, _, _, _, [], _, [], hW', trodAll_mk1 (shut_bool Try.underlying4 _), (trodAll_cons_mk (Below.trod laidOut (by kernel_rfl) (of_decide_eq_true (by kernel_rfl)) k0 bel lt0) trodAll_mk0), rfl, bel.frame _, fun h => by cases h⟩

theorem over : Rows.fnCloseAmpThreeRow.holds Try.pinned (OpenSpec.ofChange Rows.fnCloseAmpThreeSpec) :=
  OpenClaim.holds_of_wide 8 Try.f8 rfl rfl rfl rfl rfl rfl rfl ⟨rfl, rfl, rfl, rfl, rfl⟩ rfl rfl rfl rfl rfl (by kernel_rfl) Try.func8 (by kernel_rfl)
    (of_decide_eq_true (by kernel_rfl)) (by unfold Func.isWrapper; first | (rw [if_pos (by decide +kernel)]; kernel_rfl) | (rw [if_neg (by decide +kernel)]; exact ⟨rfl, rfl⟩))
    (fun os started H enc _ => lifted os started H enc)

theorem proved : Rows.FnCloseAmpThreeSaid := over
#print axioms proved
end Go.Proofs.Ytpdekpeknnlfmaa.fnCloseAmpThree
