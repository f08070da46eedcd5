/- The program's GridValid returns what the reference's returns. For every input; each argument reads afterwards as it read before. -/
import Derived.Test.YtfigjmlipffdpaaFrame2
import Derived.Test.YtfigjmlipffdpaaGrid
namespace Go.Proofs.Ytfigjmlipffdpaa.fnExactGridValid
open Go.ChangeShapes Go.WideShapes Go.ChangeAt Go.RowKit Go.Deep
set_option linter.unusedVariables false

set_option maxHeartbeats 4000000 in
set_option maxRecDepth 100000 in
theorem walk (w : World) (a0 : Option Addr) (len0 cap0 : Nat) (z0 : List (Int × Int)) (n0 : z0.length = len0) (h0 : Rd w a0 (pairs z0)) (m0 : len0 ≤ maxLen) :
    Calls Try.prog 6 #[.slice a0 len0 cap0] w fun e w' => e = .returned (.bool true) ∧ Below w.heap.size w w' := by
  subst n0
  unfold maxLen at m0
  by_cases g0 : (z0.length : Int) ≤ 1048576
  case neg =>
    go_enter Try.func6, Try.ntmps6
    go_wp2_with fail
    refine (szGaussS_no _ _ _ _ _ (by omega) (by omega) (by omega) (by omega)).mono ?_; rintro e w' ⟨rfl, rfl⟩
    go_wp2
    go_ret
    exact ⟨rfl, Below.refl _ _⟩
  case pos =>
    have B := Below.refl w.heap.size w
    go_enter Try.func6, Try.ntmps6
    go_wp2_with fail
    refine (szGaussS_yes _ _ _ _ _ (by omega) (by omega)).mono ?_; rintro e w' ⟨rfl, rfl⟩
    go_wp2_with fail
    refine (toGaussS_any _ _ _ _ (h0.below B (Nat.le_refl _)) (by omega) rfl).mono ?_
    rintro e w1 ⟨A1, rfl, o1, b1⟩
    have s1 := b1.size
    replace B := bel_trans B b1
    clear b1
    go_wp2_with fail
    refine (sGridValid_any _ _ _ _ o1.rd (by omega) rfl).mono ?_
    rintro e w2 ⟨rfl, b2⟩
    have s2 := b2.size
    replace B := bel_trans B b2
    replace o1 := o1.below b2 (by omega)
    clear b2
    clear o1
    go_wp2_with fail
    refine (toGaussS_any _ _ _ _ (h0.below B (Nat.le_refl _)) (by omega) rfl).mono ?_
    rintro e w3 ⟨A2, rfl, o2, b3⟩
    have s3 := b3.size
    replace B := bel_trans B b3
    clear b3
    go_wp2_with fail
    refine (GridValid_any _ _ _ _ o2.rd (by omega) rfl).mono ?_
    rintro e w4 ⟨rfl, b4⟩
    have s4 := b4.size
    replace B := bel_trans B b4
    replace o2 := o2.below b4 (by omega)
    clear b4
    go_wp2_with fail
    refine (toGaussS_any _ _ _ _ (h0.below B (Nat.le_refl _)) (by omega) rfl).mono ?_
    rintro e w5 ⟨A3, rfl, o3, b5⟩
    have s5 := b5.size
    replace B := bel_trans B b5
    replace o2 := o2.below b5 (by omega)
    clear b5
    go_wp2_with fail
    refine (eqGaussS_any _ _ _ _ _ _ _ o2.rd o3.rd (by omega) (by omega) rfl rfl).mono ?_
    rintro e w6 ⟨rfl, b6⟩
    have s6 := b6.size
    replace B := bel_trans B b6
    replace o2 := o2.below b6 (by omega)
    replace o3 := o3.below b6 (by omega)
    clear b6
    clear o3
    go_wp2
    go_ret
    exact ⟨rfl, B⟩

set_option maxRecDepth 100000 in
theorem lifted (os : Os) (started : os.Started) (H : Type) (enc : TypeId × Value → H) :
    ReturnsInHanded {} Try.checked os 6 .any (Rows.fnExactGridValidSpec.pre6 enc Try.prog Try.f6 Rows.fnExactGridValidRow.domain false) (Rows.fnExactGridValidSpec.post enc Try.prog Try.f6 false true false false) := by
  refine returnsInHanded_of_change (C := Try.checked) own started (by kernel_rfl) Try.func6
    (ChangeSpec.witness6 (enc := enc) (C := Try.checked) false ⟨#[], #[.slice none 0 0], []⟩ 8 (by kernel_rfl) (by kernel_rfl) (by kernel_rfl) (by kernel_rfl)) ?_
  intro W base args ds gs before hval0 hW hcnd _
  have hval : ∀ (j : Nat) t v, Try.f6.params[j]? = some t → args[j]? = some v → Value.okWide Try.prog W .any base t v := hval0
  have hW' := hW
  obtain ⟨p, q, hA0, hV, rfl, hfz, hnd⟩ := hW
  have hA : DataW.TrodAll enc Try.prog W 0 (fun _ => true) true Try.f6.params.toList args.toList ds p := hA0
  rw [Try.params6] at hA hval
  obtain ⟨v0, vs0, d0, ds0, p0, q0, hargs, rfl, rfl, h0, r0⟩ := trodAll_cons hA
  obtain ⟨rfl, rfl, rfl⟩ := trodAll_nil r0
  obtain rfl : args = #[v0] := by cases args; simp_all
  obtain ⟨rfl, rfl⟩ := trodVars_none hV
  obtain ⟨a0, len0, cap0, rfl⟩ := okWide_slice Try.underlying31 (hval 0 31 v0 rfl rfl)
  have k0 := h0
  have lt0 : ∀ x ∈ p0, x.block < W.heap.size := by obtain ⟨m, hm⟩ := k0; exact DataW.trod_lt m _ _ _ hm
  obtain ⟨z0, n0, w0, l0, x0⟩ := in_pairs Try.underlying31 Try.underlying63 Try.underlying3 ⟨rfl, rfl, rfl, rfl⟩ (by kernel_rfl) (by kernel_rfl) h0
  clear hA0 hval0
  refine (walk W a0 len0 cap0 z0 n0 w0 (Nat.le_trans l0 x0)).mono fun e W' ⟨he, bel⟩ => ?_
  subst he
  exact ⟨_, rfl, _, _, _, [], _, [], hW', trodAll_mk1 (shut_bool Try.underlying4 _), (trodAll_cons_mk (Below.trod laidOut (by kernel_rfl) (of_decide_eq_true (by kernel_rfl)) k0 bel lt0) trodAll_mk0), rfl, bel.frame _, fun h => by cases h⟩

theorem over : Rows.fnExactGridValidRow.holds Try.pinned (OpenSpec.ofChange Rows.fnExactGridValidSpec) :=
  OpenClaim.holds_of_wide 6 Try.f6 rfl rfl rfl rfl rfl rfl rfl ⟨rfl, rfl, rfl, rfl, rfl⟩ rfl rfl rfl rfl rfl (by kernel_rfl) Try.func6 (by kernel_rfl)
    (of_decide_eq_true (by kernel_rfl)) (by unfold Func.isWrapper; first | (rw [if_pos (by decide +kernel)]; kernel_rfl) | (rw [if_neg (by decide +kernel)]; exact ⟨rfl, rfl⟩))
    (fun os started H enc _ => lifted os started H enc)

theorem proved : Rows.FnExactGridValidSaid := over
#print axioms proved
end Go.Proofs.Ytfigjmlipffdpaa.fnExactGridValid
