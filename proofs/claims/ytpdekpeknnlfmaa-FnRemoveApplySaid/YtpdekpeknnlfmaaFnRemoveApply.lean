/- Removed gains can be applied. For every input; each argument reads afterwards as it read before. -/
import Derived.Test.YtpdekpeknnlfmaaFrame
import Derived.Test.YtpdekpeknnlfmaaApplyA
import Derived.Test.YtpdekpeknnlfmaaApplyS
import Derived.Test.YtpdekpeknnlfmaaDrawApply
import Derived.Test.YtpdekpeknnlfmaaApplyL
import Derived.Test.YtpdekpeknnlfmaaRemoveA
import Derived.Test.YtpdekpeknnlfmaaRemoveS
import Derived.Test.YtpdekpeknnlfmaaDrawRemove
import Derived.Test.YtpdekpeknnlfmaaCampP
namespace Go.Proofs.Ytpdekpeknnlfmaa.fnRemoveApply
open Go.ChangeShapes Go.WideShapes Go.ChangeAt Go.RowKit Go.Deep
set_option linter.unusedVariables false

set_option maxHeartbeats 4000000 in
set_option maxRecDepth 100000 in
theorem walk (w : World) (a0 : Option Addr) (len0 cap0 : Nat) (h0 : Bytes w a0 len0 w.heap.size) (k0 : len0 ≤ cap0) :
    Calls Try.prog 13 #[.slice a0 len0 cap0] w fun e w' => e = .returned (.bool true) ∧ Below w.heap.size w w' := by
  by_cases gl0 : len0 ≤ 1048576
  case neg =>
    go_enter Try.func13, Try.ntmps13
    go_wp2
    go_ret
    exact ⟨rfl, Below.refl _ _⟩
  case pos =>
    have B := Below.refl w.heap.size w
    go_enter Try.func13, Try.ntmps13
    go_wp2_with fail
    refine (DrawGainRemove_any _ _ _ _ h0 k0).mono ?_
    rintro e w1 ⟨N, A, A2, c, c2, as_, bs, rfl, n2, n6, la, lb, o, o2, b1⟩
    have s1 := b1.size
    replace B := bel_trans B b1
    clear b1
    go_wp2_with fail
    refine (GainRemove_any _ _ _ _ _ _ _ _ o.rd o2.rd (by omega) (by omega) rfl rfl).mono ?_
    rintro e w2 ⟨Ag, cg, rfl, clg, g, b2⟩
    have s2 := b2.size
    replace B := bel_trans B b2
    replace o := o.below b2 (by omega)
    replace o2 := o2.below b2 (by omega)
    clear b2
    go_wp2_with fail
    refine (sGainRemove_any _ _ _ _ _ _ _ _ o.rd o2.rd (by omega) (by omega) rfl rfl).mono ?_
    rintro e w3 ⟨Av, cv, rfl, clv, v, b3⟩
    have s3 := b3.size
    replace B := bel_trans B b3
    replace o := o.below b3 (by omega)
    replace o2 := o2.below b3 (by omega)
    replace g := g.below b3 (by omega)
    clear b3
    have rl : (gainRemove (N : Int) as_ bs).1.length ≤ 1048592 := gainRemove_len _ _ _
    cases hok : (gainRemove (N : Int) as_ bs).2 with
    | false =>
      go_wp2_with fail
      refine (sameVis_any _ _ _ _ _ _ _ g.rd v.rd rl rl rfl rfl).mono ?_
      rintro e w4 ⟨rfl, b4⟩
      have s4 := b4.size
      replace B := bel_trans B b4
      replace o := o.below b4 (by omega)
      replace o2 := o2.below b4 (by omega)
      replace g := g.below b4 (by omega)
      replace v := v.below b4 (by omega)
      clear b4
      go_wp2_with fail
      refine (sameVis_any _ _ _ _ _ _ _ g.rd v.rd rl rl rfl rfl).mono ?_
      rintro e w5 ⟨rfl, b5⟩
      have s5 := b5.size
      replace B := bel_trans B b5
      replace o := o.below b5 (by omega)
      replace o2 := o2.below b5 (by omega)
      replace g := g.below b5 (by omega)
      replace v := v.below b5 (by omega)
      clear b5
      go_wp2
      go_ret
      exact ⟨rfl, B⟩
    | true =>
    go_wp2_with fail
    refine (sameVis_any _ _ _ _ _ _ _ g.rd v.rd rl rl rfl rfl).mono ?_
    rintro e w4 ⟨rfl, b4⟩
    have s4 := b4.size
    replace B := bel_trans B b4
    replace o := o.below b4 (by omega)
    replace o2 := o2.below b4 (by omega)
    replace g := g.below b4 (by omega)
    replace v := v.below b4 (by omega)
    clear b4
    clear v
    have P1 := Lib.hid (remove_apply hok)
    go_wp2_with fail
    refine (GainApply_any _ _ _ _ _ _ _ _ g.rd o2.rd rl (by omega) rfl rfl).mono ?_
    rintro e w5 ⟨Ax1', cx1', rfl, clx1', x1', b5⟩
    have s5 := b5.size
    replace B := bel_trans B b5
    replace o := o.below b5 (by omega)
    replace o2 := o2.below b5 (by omega)
    replace g := g.below b5 (by omega)
    clear b5
    simp only [P1.out] at x1' clx1' ⊢
    go_wp2_with fail
    refine (sameVis_any _ _ _ _ _ _ _ x1'.rd o.rd (by omega) (by omega) rfl rfl).mono ?_
    rintro e w6 ⟨rfl, b6⟩
    have s6 := b6.size
    replace B := bel_trans B b6
    replace o := o.below b6 (by omega)
    replace o2 := o2.below b6 (by omega)
    replace g := g.below b6 (by omega)
    replace x1' := x1'.below b6 (by omega)
    clear b6
    rw [decide_eq_true rfl]
    go_wp2
    go_ret
    exact ⟨rfl, B⟩

set_option maxRecDepth 100000 in
theorem lifted (os : Os) (started : os.Started) (H : Type) (enc : TypeId × Value → H) :
    ReturnsInHanded {} Try.checked os 13 .any (Rows.fnRemoveApplySpec.pre6 enc Try.prog Try.f13 Rows.fnRemoveApplyRow.domain false) (Rows.fnRemoveApplySpec.post enc Try.prog Try.f13 false true false false) := by
  refine returnsInHanded_of_change (C := Try.checked) own started (by kernel_rfl) Try.func13
    (ChangeSpec.witness6 (enc := enc) (C := Try.checked) false ⟨#[], #[.slice none 0 0], []⟩ 8 (by kernel_rfl) (by kernel_rfl) (by kernel_rfl) (by kernel_rfl)) ?_
  intro W base args ds gs before hval0 hW hcnd _
  have hval : ∀ (j : Nat) t v, Try.f13.params[j]? = some t → args[j]? = some v → Value.okWide Try.prog W .any base t v := hval0
  have hW' := hW
  obtain ⟨p, q, hA0, hV, rfl, hfz, hnd⟩ := hW
  have hA : DataW.TrodAll enc Try.prog W 0 (fun _ => true) true Try.f13.params.toList args.toList ds p := hA0
  rw [Try.params13] at hA hval
  obtain ⟨v0, vs0, d0, ds0, p0, q0, hargs, rfl, rfl, h0, r0⟩ := trodAll_cons hA
  obtain ⟨rfl, rfl, rfl⟩ := trodAll_nil r0
  obtain rfl : args = #[v0] := by cases args; simp_all
  obtain ⟨rfl, rfl⟩ := trodVars_none hV
  obtain ⟨a0, len0, cap0, rfl⟩ := okWide_slice Try.underlying22 (hval 0 22 v0 rfl rfl)
  have k0 := h0
  have lt0 : ∀ x ∈ p0, x.block < W.heap.size := by obtain ⟨m, hm⟩ := k0; exact DataW.trod_lt m _ _ _ hm
  obtain ⟨z0, n0, u0, f0, c0⟩ := in_ints Try.underlying22 Try.underlying5 (by kernel_rfl) h0
  have w0 := Rd.bytes u0 n0 f0
  clear hA0 hval0
  refine (walk W a0 len0 cap0 w0 c0).mono fun e W' ⟨he, bel⟩ => ?_
  subst he
  exact ⟨_, rfl, _, _, _, [], _, [], hW', trodAll_mk1 (shut_bool Try.underlying4 _), (trodAll_cons_mk (Below.trod laidOut (by kernel_rfl) (of_decide_eq_true (by kernel_rfl)) k0 bel lt0) trodAll_mk0), rfl, bel.frame _, fun h => by cases h⟩

theorem over : Rows.fnRemoveApplyRow.holds Try.pinned (OpenSpec.ofChange Rows.fnRemoveApplySpec) :=
  OpenClaim.holds_of_wide 13 Try.f13 rfl rfl rfl rfl rfl rfl rfl ⟨rfl, rfl, rfl, rfl, rfl⟩ rfl rfl rfl rfl rfl (by kernel_rfl) Try.func13 (by kernel_rfl)
    (of_decide_eq_true (by kernel_rfl)) (by unfold Func.isWrapper; first | (rw [if_pos (by decide +kernel)]; kernel_rfl) | (rw [if_neg (by decide +kernel)]; exact ⟨rfl, rfl⟩))
    (fun os started H enc _ => lifted os started H enc)

theorem proved : Rows.FnRemoveApplySaid := over
#print axioms proved
end Go.Proofs.Ytpdekpeknnlfmaa.fnRemoveApply
