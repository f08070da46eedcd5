/- The program's FlagLoops returns what the reference's returns. For every input; each argument reads afterwards as it read before. -/
import Derived.Test.YtopneihamefohaaFrame
import Derived.Test.YtopneihamefohaaFlagL
namespace Go.Proofs.Ytopneihamefohaa.fnExactFlagLoops
open Go.ChangeShapes Go.WideShapes Go.ChangeAt Go.RowKit Go.Deep
set_option linter.unusedVariables false

set_option maxHeartbeats 4000000 in
set_option maxRecDepth 100000 in
theorem walk (w : World) (a0 : Int) (w0' : (Lit.int .i64 a0).wf = true) (a1 : Option Addr) (len1 cap1 : Nat) (z1 : List Bool) (n1 : z1.length = len1) (h1 : Rd w a1 (bools z1)) :
    Calls Try.prog 7 #[.int .i64 a0, .slice a1 len1 cap1] w fun e w' => e = .returned (.bool true) ∧ Below w.heap.size w w' := by
  subst n1
  by_cases g1 : z1.length ≤ 1048576
  case neg =>
    go_enter Try.func7, Try.ntmps7
    go_wp2
    go_ret
    exact ⟨rfl, Below.refl _ _⟩
  case pos =>
    have B := Below.refl w.heap.size w
    go_enter Try.func7, Try.ntmps7
    go_wp2_with fail
    refine (toBoolS_any _ _ _ _ (h1.below B (Nat.le_refl _)) (by omega) rfl).mono ?_
    rintro e w1 ⟨A1, rfl, o1, b1⟩
    have s1 := b1.size
    replace B := bel_trans B b1
    clear b1
    go_wp2_with fail
    refine (sFlagLoops_any _ _ _ _ _ o1.rd (by omega) rfl).mono ?_
    rintro e w2 ⟨rfl, b2⟩
    have s2 := b2.size
    replace B := bel_trans B b2
    replace o1 := o1.below b2 (by omega)
    clear b2
    clear o1
    go_wp2_with fail
    refine (toBoolS_any _ _ _ _ (h1.below B (Nat.le_refl _)) (by omega) rfl).mono ?_
    rintro e w3 ⟨A2, rfl, o2, b3⟩
    have s3 := b3.size
    replace B := bel_trans B b3
    clear b3
    go_wp2_with fail
    refine (FlagLoops_any _ _ _ _ _ o2.rd (by omega) rfl).mono ?_
    rintro e w4 ⟨rfl, b4⟩
    have s4 := b4.size
    replace B := bel_trans B b4
    replace o2 := o2.below b4 (by omega)
    clear b4
    go_wp2_with fail
    refine (toBoolS_any _ _ _ _ (h1.below B (Nat.le_refl _)) (by omega) rfl).mono ?_
    rintro e w5 ⟨A3, rfl, o3, b5⟩
    have s5 := b5.size
    replace B := bel_trans B b5
    replace o2 := o2.below b5 (by omega)
    clear b5
    go_wp2_with fail
    refine (eqBoolS_any _ _ _ _ _ _ _ o2.rd o3.rd (by omega) (by omega) rfl rfl).mono ?_
    rintro e w6 ⟨rfl, b6⟩
    have s6 := b6.size
    replace B := bel_trans B b6
    replace o2 := o2.below b6 (by omega)
    replace o3 := o3.below b6 (by omega)
    clear b6
    clear o3
    go_wp2
    go_ret
    exact ⟨rfl, B⟩

set_option maxRecDepth 100000 in
theorem lifted (os : Os) (started : os.Started) (H : Type) (enc : TypeId × Value → H) :
    ReturnsInHanded {} Try.checked os 7 .any (Rows.fnExactFlagLoopsSpec.pre6 enc Try.prog Try.f7 Rows.fnExactFlagLoopsRow.domain false) (Rows.fnExactFlagLoopsSpec.post enc Try.prog Try.f7 false true false false) := by
  refine returnsInHanded_of_change (C := Try.checked) own started (by kernel_rfl) Try.func7
    (ChangeSpec.witness6 (enc := enc) (C := Try.checked) false ⟨#[], #[.int .i64 0, .slice none 0 0], []⟩ 8 (by kernel_rfl) (by kernel_rfl) (by kernel_rfl) (by kernel_rfl)) ?_
  intro W base args ds gs before hval0 hW hcnd _
  have hval : ∀ (j : Nat) t v, Try.f7.params[j]? = some t → args[j]? = some v → Value.okWide Try.prog W .any base t v := hval0
  have hW' := hW
  obtain ⟨p, q, hA0, hV, rfl, hfz, hnd⟩ := hW
  have hA : DataW.TrodAll enc Try.prog W 0 (fun _ => true) true Try.f7.params.toList args.toList ds p := hA0
  rw [Try.params7] at hA hval
  obtain ⟨v0, vs0, d0, ds0, p0, q0, hargs, rfl, rfl, h0, r0⟩ := trodAll_cons hA
  obtain ⟨v1, vs1, d1, ds1, p1, q1, rfl, rfl, rfl, h1, r1⟩ := trodAll_cons r0
  obtain ⟨rfl, rfl, rfl⟩ := trodAll_nil r1
  obtain rfl : args = #[v0, v1] := by cases args; simp_all
  obtain ⟨rfl, rfl⟩ := trodVars_none hV
  obtain ⟨a0, rfl, rfl, rfl, w0⟩ := open_int Try.underlying3 (hval 0 3 v0 rfl rfl) h0
  obtain ⟨a1, len1, cap1, rfl⟩ := okWide_slice Try.underlying27 (hval 1 27 v1 rfl rfl)
  have k1 := h1
  have lt1 : ∀ x ∈ p1, x.block < W.heap.size := by obtain ⟨m, hm⟩ := k1; exact DataW.trod_lt m _ _ _ hm
  obtain ⟨z1, n1, w1⟩ := in_bools Try.underlying27 Try.underlying4 (by kernel_rfl) h1
  clear hA0 hval0
  refine (walk W a0 w0 a1 len1 cap1 z1 n1 w1).mono fun e W' ⟨he, bel⟩ => ?_
  subst he
  exact ⟨_, rfl, _, _, _, [], _, [], hW', trodAll_mk1 (shut_bool Try.underlying4 _), (trodAll_cons_mk (shut_int Try.underlying3 w0) (trodAll_cons_mk (Below.trod laidOut (by kernel_rfl) (of_decide_eq_true (by kernel_rfl)) k1 bel lt1) trodAll_mk0)), rfl, bel.frame _, fun h => by cases h⟩

theorem over : Rows.fnExactFlagLoopsRow.holds Try.pinned (OpenSpec.ofChange Rows.fnExactFlagLoopsSpec) :=
  OpenClaim.holds_of_wide 7 Try.f7 rfl rfl rfl rfl rfl rfl rfl ⟨rfl, rfl, rfl, rfl, rfl⟩ rfl rfl rfl rfl rfl (by kernel_rfl) Try.func7 (by kernel_rfl)
    (of_decide_eq_true (by kernel_rfl)) (by unfold Func.isWrapper; first | (rw [if_pos (by decide +kernel)]; kernel_rfl) | (rw [if_neg (by decide +kernel)]; exact ⟨rfl, rfl⟩))
    (fun os started H enc _ => lifted os started H enc)

theorem proved : Rows.FnExactFlagLoopsSaid := over
#print axioms proved
end Go.Proofs.Ytopneihamefohaa.fnExactFlagLoops
