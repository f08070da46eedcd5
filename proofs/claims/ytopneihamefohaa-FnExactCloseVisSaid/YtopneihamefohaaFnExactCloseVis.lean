/- The program's CloseVis returns what the reference's returns, in memory of its own, and leaves its argument alone. For every input; each argument reads afterwards as it read before. -/
import Derived.Test.YtopneihamefohaaFrame
import Derived.Test.YtopneihamefohaaCvisB
namespace Go.Proofs.Ytopneihamefohaa.fnExactCloseVis
open Go.ChangeShapes Go.WideShapes Go.ChangeAt Go.RowKit Go.Deep
set_option linter.unusedVariables false

set_option maxHeartbeats 4000000 in
set_option maxRecDepth 100000 in
theorem walk (w : World) (a0 : Int) (w0' : (Lit.int .i64 a0).wf = true) (a1 : Option Addr) (len1 cap1 : Nat) (z1 : List Int) (n1 : z1.length = len1) (h1 : Rd w a1 (ints z1)) :
    Calls Try.prog 14 #[.int .i64 a0, .slice a1 len1 cap1] w fun e w' => e = .returned (.bool true) ∧ Below w.heap.size w w' := by
  subst n1
  by_cases g1 : z1.length ≤ 1048576
  case neg =>
    go_enter Try.func14, Try.ntmps14
    go_wp2
    go_ret
    exact ⟨rfl, Below.refl _ _⟩
  case pos =>
    have B := Below.refl w.heap.size w
    go_enter Try.func14, Try.ntmps14
    have rl : ((closeVis a0 z1).1).length ≤ 1048592 := cv_len _ _
    go_wp2_with fail
    refine (toIntS_any _ _ _ _ (h1.below B (Nat.le_refl _)) (by omega) rfl).mono ?_
    rintro e w1 ⟨A1, rfl, o1, b1⟩
    have s1 := b1.size
    replace B := bel_trans B b1
    clear b1
    go_wp2_with fail
    refine (sCloseVis_any _ _ _ _ _ o1.rd (by omega) rfl).mono ?_
    rintro e w2 ⟨A2, c2, rfl, cl2, o2, b2⟩
    have s2 := b2.size
    replace B := bel_trans B b2
    replace o1 := o1.below b2 (by omega)
    clear b2
    clear o1
    go_wp2_with fail
    refine (toIntS_any _ _ _ _ (h1.below B (Nat.le_refl _)) (by omega) rfl).mono ?_
    rintro e w3 ⟨A3, rfl, o3, b3⟩
    have s3 := b3.size
    replace B := bel_trans B b3
    replace o2 := o2.below b3 (by omega)
    clear b3
    go_wp2_with fail
    refine (CloseVis_any _ _ _ _ _ o3.rd (by omega) rfl).mono ?_
    rintro e w4 ⟨A4, c4, rfl, cl4, o4, b4⟩
    have s4 := b4.size
    replace B := bel_trans B b4
    replace o2 := o2.below b4 (by omega)
    replace o3 := o3.below b4 (by omega)
    clear b4
    go_wp2_with fail
    refine (eqVisS_any _ _ _ _ _ _ _ o4.rd o2.rd rl rl rfl rfl).mono ?_
    rintro e w5 ⟨rfl, b5⟩
    have s5 := b5.size
    replace B := bel_trans B b5
    replace o2 := o2.below b5 (by omega)
    replace o3 := o3.below b5 (by omega)
    replace o4 := o4.below b5 (by omega)
    clear b5
    go_wp2_with fail
    refine (toIntS_any _ _ _ _ (h1.below B (Nat.le_refl _)) (by omega) rfl).mono ?_
    rintro e w6 ⟨A5, rfl, o5, b6⟩
    have s6 := b6.size
    replace B := bel_trans B b6
    replace o2 := o2.below b6 (by omega)
    replace o3 := o3.below b6 (by omega)
    replace o4 := o4.below b6 (by omega)
    clear b6
    go_wp2_with fail
    refine (eqIntS_any _ _ _ _ _ _ _ o3.rd o5.rd (by omega) (by omega) rfl rfl).mono ?_
    rintro e w7 ⟨rfl, b7⟩
    have s7 := b7.size
    replace B := bel_trans B b7
    replace o2 := o2.below b7 (by omega)
    replace o3 := o3.below b7 (by omega)
    replace o4 := o4.below b7 (by omega)
    replace o5 := o5.below b7 (by omega)
    clear b7
    clear o5
    go_wp2_with fail
    refine (markIntS_any _ _ _ _ _ _ _ o3 (by omega) (by omega) (by omega) rfl).mono ?_
    rintro e w8 ⟨rfl, om8, on8, sz8⟩
    have s8 : w7.heap.size ≤ w8.heap.size := by omega
    have t8 : w8.heap.size ≤ w7.heap.size := by omega
    clear sz8
    replace B := on8.below B (by omega) (Nat.le_refl _)
    replace o2 := o2.only on8 (by omega)
    replace o4 := o4.only on8 (by omega)
    clear o3
    have o3 := om8
    clear om8 on8
    clear o3
    go_wp2_with fail
    refine (eqVisS_any _ _ _ _ _ _ _ o4.rd o2.rd rl rl rfl rfl).mono ?_
    rintro e w9 ⟨rfl, b9⟩
    have s9 := b9.size
    replace B := bel_trans B b9
    replace o2 := o2.below b9 (by omega)
    replace o4 := o4.below b9 (by omega)
    clear b9
    go_wp2_with fail
    refine (markVisS_any _ _ _ _ _ _ _ o4 rl (by omega) (by omega) rfl).mono ?_
    rintro e w10 ⟨rfl, om10, on10, sz10⟩
    have s10 : w9.heap.size ≤ w10.heap.size := by omega
    have t10 : w10.heap.size ≤ w9.heap.size := by omega
    clear sz10
    replace B := on10.below B (by omega) (Nat.le_refl _)
    replace o2 := o2.only on10 (by omega)
    clear o4
    have o4 := om10
    clear om10 on10
    go_wp2_with fail
    refine (heldVisS_any _ _ _ _ _ o4.rd rl (by omega) (by omega)).mono ?_; rintro e w' ⟨rfl, rfl⟩
    go_wp2_with fail
    refine (toIntS_any _ _ _ _ (h1.below B (Nat.le_refl _)) (by omega) rfl).mono ?_
    rintro e w11 ⟨A6, rfl, o6, b11⟩
    have s11 := b11.size
    replace B := bel_trans B b11
    replace o2 := o2.below b11 (by omega)
    replace o4 := o4.below b11 (by omega)
    clear b11
    go_wp2_with fail
    refine (CloseVis_any _ _ _ _ _ o6.rd (by omega) rfl).mono ?_
    rintro e w12 ⟨A7, c7, rfl, cl7, o7, b12⟩
    have s12 := b12.size
    replace B := bel_trans B b12
    replace o2 := o2.below b12 (by omega)
    replace o4 := o4.below b12 (by omega)
    replace o6 := o6.below b12 (by omega)
    clear b12
    clear o6
    go_wp2_with fail
    refine (eqVisS_any _ _ _ _ _ _ _ o7.rd o2.rd rl rl rfl rfl).mono ?_
    rintro e w13 ⟨rfl, b13⟩
    have s13 := b13.size
    replace B := bel_trans B b13
    replace o2 := o2.below b13 (by omega)
    replace o4 := o4.below b13 (by omega)
    replace o7 := o7.below b13 (by omega)
    clear b13
    go_wp2_with fail
    refine (heldVisS_any _ _ _ _ _ o4.rd rl (by omega) (by omega)).mono ?_; rintro e w' ⟨rfl, rfl⟩
    go_wp2
    go_ret
    exact ⟨rfl, B⟩

set_option maxRecDepth 100000 in
theorem lifted (os : Os) (started : os.Started) (H : Type) (enc : TypeId × Value → H) :
    ReturnsInHanded {} Try.checked os 14 .any (Rows.fnExactCloseVisSpec.pre6 enc Try.prog Try.f14 Rows.fnExactCloseVisRow.domain false) (Rows.fnExactCloseVisSpec.post enc Try.prog Try.f14 false true false false) := by
  refine returnsInHanded_of_change (C := Try.checked) own started (by kernel_rfl) Try.func14
    (ChangeSpec.witness6 (enc := enc) (C := Try.checked) false ⟨#[], #[.int .i64 0, .slice none 0 0], []⟩ 8 (by kernel_rfl) (by kernel_rfl) (by kernel_rfl) (by kernel_rfl)) ?_
  intro W base args ds gs before hval0 hW hcnd _
  have hval : ∀ (j : Nat) t v, Try.f14.params[j]? = some t → args[j]? = some v → Value.okWide Try.prog W .any base t v := hval0
  have hW' := hW
  obtain ⟨p, q, hA0, hV, rfl, hfz, hnd⟩ := hW
  have hA : DataW.TrodAll enc Try.prog W 0 (fun _ => true) true Try.f14.params.toList args.toList ds p := hA0
  rw [Try.params14] at hA hval
  obtain ⟨v0, vs0, d0, ds0, p0, q0, hargs, rfl, rfl, h0, r0⟩ := trodAll_cons hA
  obtain ⟨v1, vs1, d1, ds1, p1, q1, rfl, rfl, rfl, h1, r1⟩ := trodAll_cons r0
  obtain ⟨rfl, rfl, rfl⟩ := trodAll_nil r1
  obtain rfl : args = #[v0, v1] := by cases args; simp_all
  obtain ⟨rfl, rfl⟩ := trodVars_none hV
  obtain ⟨a0, rfl, rfl, rfl, w0⟩ := open_int Try.underlying3 (hval 0 3 v0 rfl rfl) h0
  obtain ⟨a1, len1, cap1, rfl⟩ := okWide_slice Try.underlying28 (hval 1 28 v1 rfl rfl)
  have k1 := h1
  have lt1 : ∀ x ∈ p1, x.block < W.heap.size := by obtain ⟨m, hm⟩ := k1; exact DataW.trod_lt m _ _ _ hm
  obtain ⟨z1, n1, w1, _, _⟩ := in_ints Try.underlying28 Try.underlying3 (by kernel_rfl) h1
  clear hA0 hval0
  refine (walk W a0 w0 a1 len1 cap1 z1 n1 w1).mono fun e W' ⟨he, bel⟩ => ?_
  subst he
  exact ⟨_, rfl, _, _, _, [], _, [], hW', trodAll_mk1 (shut_bool Try.underlying4 _), (trodAll_cons_mk (shut_int Try.underlying3 w0) (trodAll_cons_mk (Below.trod laidOut (by kernel_rfl) (of_decide_eq_true (by kernel_rfl)) k1 bel lt1) trodAll_mk0)), rfl, bel.frame _, fun h => by cases h⟩

theorem over : Rows.fnExactCloseVisRow.holds Try.pinned (OpenSpec.ofChange Rows.fnExactCloseVisSpec) :=
  OpenClaim.holds_of_wide 14 Try.f14 rfl rfl rfl rfl rfl rfl rfl ⟨rfl, rfl, rfl, rfl, rfl⟩ rfl rfl rfl rfl rfl (by kernel_rfl) Try.func14 (by kernel_rfl)
    (of_decide_eq_true (by kernel_rfl)) (by unfold Func.isWrapper; first | (rw [if_pos (by decide +kernel)]; kernel_rfl) | (rw [if_neg (by decide +kernel)]; exact ⟨rfl, rfl⟩))
    (fun os started H enc _ => lifted os started H enc)

theorem proved : Rows.FnExactCloseVisSaid := over
#print axioms proved
end Go.Proofs.Ytopneihamefohaa.fnExactCloseVis
