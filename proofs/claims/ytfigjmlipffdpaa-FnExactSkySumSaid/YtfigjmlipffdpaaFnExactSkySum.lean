/- The program's SkySum returns what the reference's returns. For every input; each argument reads afterwards as it read before. -/
import Derived.Test.YtfigjmlipffdpaaFrame
import Derived.Test.YtfigjmlipffdpaaSkyA
namespace Go.Proofs.Ytfigjmlipffdpaa.fnExactSkySum
open Go.ChangeShapes Go.WideShapes Go.ChangeAt Go.RowKit Go.Deep
set_option linter.unusedVariables false

set_option maxHeartbeats 4000000 in
set_option maxRecDepth 100000 in
theorem walk (w : World) (a0 : Option Addr) (len0 cap0 : Nat) (z0 : List Int) (n0 : z0.length = len0) (h0 : Rd w a0 (ints z0)) :
    Calls Try.prog 4 #[.slice a0 len0 cap0] w fun e w' => e = .returned (.bool true) ∧ Below w.heap.size w w' := by
  subst n0
  by_cases g0 : z0.length ≤ 1048576
  case neg =>
    go_enter Try.func4, Try.ntmps4
    go_wp2
    go_ret
    exact ⟨rfl, Below.refl _ _⟩
  case pos =>
    have B := Below.refl w.heap.size w
    go_enter Try.func4, Try.ntmps4
    go_wp2_with fail
    refine (toIntS_any _ _ _ _ (h0.below B (Nat.le_refl _)) (by omega) rfl).mono ?_
    rintro e w1 ⟨A1, rfl, o1, b1⟩
    have s1 := b1.size
    replace B := bel_trans B b1
    clear b1
    go_wp2_with fail
    refine (sSkySum_any _ _ _ _ o1.rd (by omega) rfl).mono ?_; rintro e w' ⟨rfl, rfl⟩
    clear o1
    go_wp2_with fail
    refine (toIntS_any _ _ _ _ (h0.below B (Nat.le_refl _)) (by omega) rfl).mono ?_
    rintro e w2 ⟨A2, rfl, o2, b2⟩
    have s2 := b2.size
    replace B := bel_trans B b2
    clear b2
    go_wp2_with fail
    refine (SkySum_any _ _ _ _ o2.rd (by omega) rfl).mono ?_; rintro e w' ⟨rfl, rfl⟩
    go_wp2_with fail
    refine (toIntS_any _ _ _ _ (h0.below B (Nat.le_refl _)) (by omega) rfl).mono ?_
    rintro e w3 ⟨A3, rfl, o3, b3⟩
    have s3 := b3.size
    replace B := bel_trans B b3
    replace o2 := o2.below b3 (by omega)
    clear b3
    go_wp2_with fail
    refine (eqIntS_any _ _ _ _ _ _ _ o2.rd o3.rd (by omega) (by omega) rfl rfl).mono ?_
    rintro e w4 ⟨rfl, b4⟩
    have s4 := b4.size
    replace B := bel_trans B b4
    replace o2 := o2.below b4 (by omega)
    replace o3 := o3.below b4 (by omega)
    clear b4
    clear o3
    go_wp2
    go_ret
    exact ⟨rfl, B⟩

set_option maxRecDepth 100000 in
theorem lifted (os : Os) (started : os.Started) (H : Type) (enc : TypeId × Value → H) :
    ReturnsInHanded {} Try.checked os 4 .any (Rows.fnExactSkySumSpec.pre6 enc Try.prog Try.f4 Rows.fnExactSkySumRow.domain false) (Rows.fnExactSkySumSpec.post enc Try.prog Try.f4 false true false false) := by
  refine returnsInHanded_of_change (C := Try.checked) own started (by kernel_rfl) Try.func4
    (ChangeSpec.witness6 (enc := enc) (C := Try.checked) false ⟨#[], #[.slice none 0 0], []⟩ 8 (by kernel_rfl) (by kernel_rfl) (by kernel_rfl) (by kernel_rfl)) ?_
  intro W base args ds gs before hval0 hW hcnd _
  have hval : ∀ (j : Nat) t v, Try.f4.params[j]? = some t → args[j]? = some v → Value.okWide Try.prog W .any base t v := hval0
  have hW' := hW
  obtain ⟨p, q, hA0, hV, rfl, hfz, hnd⟩ := hW
  have hA : DataW.TrodAll enc Try.prog W 0 (fun _ => true) true Try.f4.params.toList args.toList ds p := hA0
  rw [Try.params4] at hA hval
  obtain ⟨v0, vs0, d0, ds0, p0, q0, hargs, rfl, rfl, h0, r0⟩ := trodAll_cons hA
  obtain ⟨rfl, rfl, rfl⟩ := trodAll_nil r0
  obtain rfl : args = #[v0] := by cases args; simp_all
  obtain ⟨rfl, rfl⟩ := trodVars_none hV
  obtain ⟨a0, len0, cap0, rfl⟩ := okWide_slice Try.underlying22 (hval 0 22 v0 rfl rfl)
  have k0 := h0
  have lt0 : ∀ x ∈ p0, x.block < W.heap.size := by obtain ⟨m, hm⟩ := k0; exact DataW.trod_lt m _ _ _ hm
  obtain ⟨z0, n0, w0, _⟩ := in_ints Try.underlying22 Try.underlying3 (by kernel_rfl) h0
  clear hA0 hval0
  refine (walk W a0 len0 cap0 z0 n0 w0).mono fun e W' ⟨he, bel⟩ => ?_
  subst he
  exact ⟨_, rfl, _, _, _, [], _, [], hW', trodAll_mk1 (shut_bool Try.underlying4 _), (trodAll_cons_mk (Below.trod laidOut (by kernel_rfl) (of_decide_eq_true (by kernel_rfl)) k0 bel lt0) trodAll_mk0), rfl, bel.frame _, fun h => by cases h⟩

theorem over : Rows.fnExactSkySumRow.holds Try.pinned (OpenSpec.ofChange Rows.fnExactSkySumSpec) :=
  OpenClaim.holds_of_wide 4 Try.f4 rfl rfl rfl rfl rfl rfl rfl ⟨rfl, rfl, rfl, rfl, rfl⟩ rfl rfl rfl rfl rfl (by kernel_rfl) Try.func4 (by kernel_rfl)
    (of_decide_eq_true (by kernel_rfl)) (by unfold Func.isWrapper; first | (rw [if_pos (by decide +kernel)]; kernel_rfl) | (rw [if_neg (by decide +kernel)]; exact ⟨rfl, rfl⟩))
    (fun os started H enc _ => lifted os started H enc)

theorem proved : Rows.FnExactSkySumSaid := over
#print axioms proved
end Go.Proofs.Ytfigjmlipffdpaa.fnExactSkySum
