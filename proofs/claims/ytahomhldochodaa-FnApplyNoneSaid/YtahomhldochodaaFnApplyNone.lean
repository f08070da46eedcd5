/- Gains of 1 change nothing. For every input; each argument reads afterwards as it read before. -/
import Derived.Test.YtahomhldochodaaFrame
import Derived.Test.YtahomhldochodaaApplyA
import Derived.Test.YtahomhldochodaaApplyS
import Derived.Test.YtahomhldochodaaDrawApply
import Derived.Test.YtahomhldochodaaApplyL
import Derived.Test.YtahomhldochodaaRemoveA
import Derived.Test.YtahomhldochodaaJoin
namespace Go.Proofs.Ytahomhldochodaa.fnApplyNone
open Go.ChangeShapes Go.WideShapes Go.ChangeAt Go.RowKit Go.Deep
set_option linter.unusedVariables false

set_option maxHeartbeats 4000000 in
set_option maxRecDepth 100000 in
theorem walk (w : World) (a0 : Option Addr) (len0 cap0 : Nat) (h0 : Bytes w a0 len0 w.heap.size) (k0 : len0 ≤ cap0) :
    Calls Try.prog 11 #[.slice a0 len0 cap0] w fun e w' => e = .returned (.bool true) ∧ Below w.heap.size w w' := by
  by_cases g0 : len0 ≤ 1048576
  case neg =>
    go_enter Try.func11, Try.ntmps11
    go_wp2
    go_ret
    exact ⟨rfl, Below.refl _ _⟩
  case pos =>
    have B := Below.refl w.heap.size w
    go_enter Try.func11, Try.ntmps11
    go_wp2_with fail
    refine (DrawGainApply_any _ _ _ _ h0 k0).mono ?_
    rintro e w1 ⟨N, A, A2, c, c2, as_, bs, rfl, n2, n6, la, lb, o, o2, b1⟩
    have s1 := b1.size
    replace B := bel_trans B b1
    clear b1
    go_wp2_with fail
    refine (GainApply_any _ _ _ _ _ _ _ _ o.rd o2.rd (by omega) (by omega) rfl rfl).mono ?_
    rintro e w2 ⟨Ag, cg, rfl, clg, g, b2⟩
    have s2 := b2.size
    replace B := bel_trans B b2
    replace o := o.below b2 (by omega)
    replace o2 := o2.below b2 (by omega)
    clear b2
    go_wp2_with fail
    refine (sGainApply_any _ _ _ _ _ _ _ _ o.rd o2.rd (by omega) (by omega) rfl rfl).mono ?_
    rintro e w3 ⟨Av, cv, rfl, clv, v, b3⟩
    have s3 := b3.size
    replace B := bel_trans B b3
    replace o := o.below b3 (by omega)
    replace o2 := o2.below b3 (by omega)
    replace g := g.below b3 (by omega)
    clear b3
    have rl : (gainApply (N : Int) as_ bs).1.length ≤ 1048592 := gainApply_len _ _ _
    cases hok : (gainApply (N : Int) as_ bs).2 with
    | false =>
      go_wp2_with fail
      refine (sameVis_any _ _ _ _ _ _ _ g.rd v.rd rl rl rfl rfl).mono ?_
      rintro e w4 ⟨rfl, b4⟩
      have s4 := b4.size
      replace B := bel_trans B b4
      replace o := o.below b4 (by omega)
      replace o2 := o2.below b4 (by omega)
      replace g := g.below b4 (by omega)
      replace v := v.below b4 (by omega)
      clear b4
      go_wp2_with fail
      refine (sameVis_any _ _ _ _ _ _ _ g.rd v.rd rl rl rfl rfl).mono ?_
      rintro e w5 ⟨rfl, b5⟩
      have s5 := b5.size
      replace B := bel_trans B b5
      replace o := o.below b5 (by omega)
      replace o2 := o2.below b5 (by omega)
      replace g := g.below b5 (by omega)
      replace v := v.below b5 (by omega)
      clear b5
      go_wp2
      go_ret
      exact ⟨rfl, B⟩
    | true =>
    go_wp2_with fail
    refine (sameVis_any _ _ _ _ _ _ _ g.rd v.rd rl rl rfl rfl).mono ?_
    rintro e w4 ⟨rfl, b4⟩
    have s4 := b4.size
    replace B := bel_trans B b4
    replace o := o.below b4 (by omega)
    replace o2 := o2.below b4 (by omega)
    replace g := g.below b4 (by omega)
    replace v := v.below b4 (by omega)
    clear b4
    clear v
    obtain ⟨p1, p2⟩ := apply_none (apply_ok hok).1
    have P1 := Lib.hid p1
    have P2 := Lib.hid p2
    clear p1 p2
    go_wp2_with fail
    refine (ones_any _ _ (by omega)).mono ?_
    rintro e w5 ⟨A3, c3, rfl, o3, b5⟩
    have s5 := b5.size
    replace B := bel_trans B b5
    replace o := o.below b5 (by omega)
    replace o2 := o2.below b5 (by omega)
    replace g := g.below b5 (by omega)
    clear b5
    go_wp2_with fail
    refine (GainApply_any _ _ _ _ _ _ _ _ o.rd o3.rd (by omega) (by simp [onesL]; omega) rfl (by simp [onesL])).mono ?_
    rintro e w6 ⟨Ax1', cx1', rfl, clx1', x1', b6⟩
    have s6 := b6.size
    replace B := bel_trans B b6
    replace o := o.below b6 (by omega)
    replace o2 := o2.below b6 (by omega)
    replace g := g.below b6 (by omega)
    replace o3 := o3.below b6 (by omega)
    clear b6
    simp only [P1.out] at x1' clx1' ⊢
    go_wp2_with fail
    refine (ones_any _ _ (by omega)).mono ?_
    rintro e w7 ⟨A4, c4, rfl, o4, b7⟩
    have s7 := b7.size
    replace B := bel_trans B b7
    replace o := o.below b7 (by omega)
    replace o2 := o2.below b7 (by omega)
    replace g := g.below b7 (by omega)
    replace o3 := o3.below b7 (by omega)
    replace x1' := x1'.below b7 (by omega)
    clear b7
    go_wp2_with fail
    refine (GainRemove_any _ _ _ _ _ _ _ _ o.rd o4.rd (by omega) (by simp [onesL]; omega) rfl (by simp [onesL])).mono ?_
    rintro e w8 ⟨Ay1', cy1', rfl, cly1', y1', b8⟩
    have s8 := b8.size
    replace B := bel_trans B b8
    replace o := o.below b8 (by omega)
    replace o2 := o2.below b8 (by omega)
    replace g := g.below b8 (by omega)
    replace o3 := o3.below b8 (by omega)
    replace x1' := x1'.below b8 (by omega)
    replace o4 := o4.below b8 (by omega)
    clear b8
    simp only [P2.out] at y1' cly1' ⊢
    go_wp2_with fail
    refine (sameVis_any _ _ _ _ _ _ _ x1'.rd o.rd (by omega) (by omega) rfl rfl).mono ?_
    rintro e w9 ⟨rfl, b9⟩
    have s9 := b9.size
    replace B := bel_trans B b9
    replace o := o.below b9 (by omega)
    replace o2 := o2.below b9 (by omega)
    replace g := g.below b9 (by omega)
    replace o3 := o3.below b9 (by omega)
    replace x1' := x1'.below b9 (by omega)
    replace o4 := o4.below b9 (by omega)
    replace y1' := y1'.below b9 (by omega)
    clear b9
    rw [decide_eq_true rfl]
    go_wp2_with fail
    refine (sameVis_any _ _ _ _ _ _ _ y1'.rd o.rd (by omega) (by omega) rfl rfl).mono ?_
    rintro e w10 ⟨rfl, b10⟩
    have s10 := b10.size
    replace B := bel_trans B b10
    replace o := o.below b10 (by omega)
    replace o2 := o2.below b10 (by omega)
    replace g := g.below b10 (by omega)
    replace o3 := o3.below b10 (by omega)
    replace x1' := x1'.below b10 (by omega)
    replace o4 := o4.below b10 (by omega)
    replace y1' := y1'.below b10 (by omega)
    clear b10
    rw [decide_eq_true rfl]
    go_wp2
    go_ret
    exact ⟨rfl, B⟩

set_option maxRecDepth 100000 in
theorem lifted (os : Os) (started : os.Started) (H : Type) (enc : TypeId × Value → H) :
    ReturnsInHanded {} Try.checked os 11 .any (Rows.fnApplyNoneSpec.pre6 enc Try.prog Try.f11 Rows.fnApplyNoneRow.domain false) (Rows.fnApplyNoneSpec.post enc Try.prog Try.f11 false true false false) := by
  refine returnsInHanded_of_change (C := Try.checked) own started (by kernel_rfl) Try.func11
    (ChangeSpec.witness6 (enc := enc) (C := Try.checked) false ⟨#[], #[.slice none 0 0], []⟩ 8 (by kernel_rfl) (by kernel_rfl) (by kernel_rfl) (by kernel_rfl)) ?_
  intro W base args ds gs before hval0 hW hcnd _
  have hval : ∀ (j : Nat) t v, Try.f11.params[j]? = some t → args[j]? = some v → Value.okWide Try.prog W .any base t v := hval0
  have hW' := hW
  obtain ⟨p, q, hA0, hV, rfl, hfz, hnd⟩ := hW
  have hA : DataW.TrodAll enc Try.prog W 0 (fun _ => true) true Try.f11.params.toList args.toList ds p := hA0
  rw [Try.params11] at hA hval
  obtain ⟨v0, vs0, d0, ds0, p0, q0, hargs, rfl, rfl, h0, r0⟩ := trodAll_cons hA
  obtain ⟨rfl, rfl, rfl⟩ := trodAll_nil r0
  obtain rfl : args = #[v0] := by cases args; simp_all
  obtain ⟨rfl, rfl⟩ := trodVars_none hV
  obtain ⟨a0, len0, cap0, rfl⟩ := okWide_slice Try.underlying31 (hval 0 31 v0 rfl rfl)
  have k0 := h0
  have lt0 : ∀ x ∈ p0, x.block < W.heap.size := by obtain ⟨m, hm⟩ := k0; exact DataW.trod_lt m _ _ _ hm
  obtain ⟨z0, n0, u0, f0, c0⟩ := in_ints Try.underlying31 Try.underlying5 (by kernel_rfl) h0
  have w0 := Rd.bytes u0 n0 f0
  clear hA0 hval0
  refine (walk W a0 len0 cap0 w0 c0).mono fun e W' ⟨he, bel⟩ => ?_
  subst he
  exact ⟨_, rfl, _, _, _, [], _, [], hW', trodAll_mk1 (shut_bool Try.underlying4 _), (trodAll_cons_mk (Below.trod laidOut (by kernel_rfl) (of_decide_eq_true (by kernel_rfl)) k0 bel lt0) trodAll_mk0), rfl, bel.frame _, fun h => by cases h⟩

theorem over : Rows.fnApplyNoneRow.holds Try.pinned (OpenSpec.ofChange Rows.fnApplyNoneSpec) :=
  OpenClaim.holds_of_wide 11 Try.f11 rfl rfl rfl rfl rfl rfl rfl ⟨rfl, rfl, rfl, rfl, rfl⟩ rfl rfl rfl rfl rfl (by kernel_rfl) Try.func11 (by kernel_rfl)
    (of_decide_eq_true (by kernel_rfl)) (by unfold Func.isWrapper; first | (rw [if_pos (by decide +kernel)]; kernel_rfl) | (rw [if_neg (by decide +kernel)]; exact ⟨rfl, rfl⟩))
    (fun os started H enc _ => lifted os started H enc)

theorem proved : Rows.FnApplyNoneSaid := over
#print axioms proved
end Go.Proofs.Ytahomhldochodaa.fnApplyNone
