/- The program's SolveRest returns what the reference's returns, and leaves its arguments alone. For every input; each argument reads afterwards as it read before. -/
import Derived.Test.YtpdekpeknnlfmaaFrame2
import Derived.Test.YtpdekpeknnlfmaaRestS
namespace Go.Proofs.Ytpdekpeknnlfmaa.fnExactSolveRest
open Go.ChangeShapes Go.WideShapes Go.ChangeAt Go.RowKit Go.Deep
set_option linter.unusedVariables false

set_option maxHeartbeats 4000000 in
set_option maxRecDepth 100000 in
theorem walk (w : World) (a0 : Int) (w0' : (Lit.int .i64 a0).wf = true) (a1 : Option Addr) (len1 cap1 : Nat) (z1 : List (Int × Int)) (n1 : z1.length = len1) (h1 : Rd w a1 (pairs z1)) (m1 : len1 ≤ maxLen) (a2 : Option Addr) (len2 cap2 : Nat) (z2 : List (Int × Int)) (n2 : z2.length = len2) (h2 : Rd w a2 (pairs z2)) (m2 : len2 ≤ maxLen) (a3 : Option Addr) (len3 cap3 : Nat) (z3 : List Int) (n3 : z3.length = len3) (h3 : Rd w a3 (ints z3)) :
    Calls Try.prog 10 #[.int .i64 a0, .slice a1 len1 cap1, .slice a2 len2 cap2, .slice a3 len3 cap3] w fun e w' => e = .returned (.bool true) ∧ Below w.heap.size w w' := by
  subst n1
  unfold maxLen at m1
  subst n2
  unfold maxLen at m2
  subst n3
  by_cases g3 : z3.length ≤ 1048576
  case neg =>
    go_enter Try.func10, Try.ntmps10
    go_wp2
    go_ret
    exact ⟨rfl, Below.refl _ _⟩
  by_cases g1 : (z1.length : Int) ≤ 1048576
  case neg =>
    go_enter Try.func10, Try.ntmps10
    go_wp2_with fail
    refine (szVisS_no _ _ _ _ _ (by omega) (by omega) (by omega) (by omega)).mono ?_; rintro e w' ⟨rfl, rfl⟩
    go_wp2
    go_ret
    exact ⟨rfl, Below.refl _ _⟩
  by_cases g2 : (z2.length : Int) ≤ 1048576 - (z1.length : Int)
  case neg =>
    go_enter Try.func10, Try.ntmps10
    go_wp2_with fail
    refine (szVisS_yes _ _ _ _ _ (by omega) (by omega)).mono ?_; rintro e w' ⟨rfl, rfl⟩
    go_wp2_with fail
    refine (szVisS_no _ _ _ _ _ (by omega) (by omega) (by omega) (by omega)).mono ?_; rintro e w' ⟨rfl, rfl⟩
    go_wp2
    go_ret
    exact ⟨rfl, Below.refl _ _⟩
  case pos =>
    have B := Below.refl w.heap.size w
    go_enter Try.func10, Try.ntmps10
    go_wp2_with fail
    refine (szVisS_yes _ _ _ _ _ (by omega) (by omega)).mono ?_; rintro e w' ⟨rfl, rfl⟩
    go_wp2_with fail
    refine (szVisS_yes _ _ _ _ _ (by omega) (by omega)).mono ?_; rintro e w' ⟨rfl, rfl⟩
    go_wp2_with fail
    refine (toVisS_any _ _ _ _ (h1.below B (Nat.le_refl _)) (by omega) rfl).mono ?_
    rintro e w1 ⟨A1, rfl, o1, b1⟩
    have s1 := b1.size
    replace B := bel_trans B b1
    clear b1
    go_wp2_with fail
    refine (toVisS_any _ _ _ _ (h2.below B (Nat.le_refl _)) (by omega) rfl).mono ?_
    rintro e w2 ⟨A2, rfl, o2, b2⟩
    have s2 := b2.size
    replace B := bel_trans B b2
    replace o1 := o1.below b2 (by omega)
    clear b2
    go_wp2_with fail
    refine (toIntS_any _ _ _ _ (h3.below B (Nat.le_refl _)) (by omega) rfl).mono ?_
    rintro e w3 ⟨A3, rfl, o3, b3⟩
    have s3 := b3.size
    replace B := bel_trans B b3
    replace o1 := o1.below b3 (by omega)
    replace o2 := o2.below b3 (by omega)
    clear b3
    go_wp2_with fail
    refine (sSolveRest_any _ _ _ _ _ _ _ _ _ _ _ o1.rd o2.rd o3.rd (by omega) (by omega) (by omega) rfl rfl rfl).mono ?_
    rintro e w4 ⟨rfl, b4⟩
    have s4 := b4.size
    replace B := bel_trans B b4
    replace o1 := o1.below b4 (by omega)
    replace o2 := o2.below b4 (by omega)
    replace o3 := o3.below b4 (by omega)
    clear b4
    clear o1
    clear o2
    clear o3
    go_wp2_with fail
    refine (toVisS_any _ _ _ _ (h1.below B (Nat.le_refl _)) (by omega) rfl).mono ?_
    rintro e w5 ⟨A4, rfl, o4, b5⟩
    have s5 := b5.size
    replace B := bel_trans B b5
    clear b5
    go_wp2_with fail
    refine (toVisS_any _ _ _ _ (h2.below B (Nat.le_refl _)) (by omega) rfl).mono ?_
    rintro e w6 ⟨A5, rfl, o5, b6⟩
    have s6 := b6.size
    replace B := bel_trans B b6
    replace o4 := o4.below b6 (by omega)
    clear b6
    go_wp2_with fail
    refine (toIntS_any _ _ _ _ (h3.below B (Nat.le_refl _)) (by omega) rfl).mono ?_
    rintro e w7 ⟨A6, rfl, o6, b7⟩
    have s7 := b7.size
    replace B := bel_trans B b7
    replace o4 := o4.below b7 (by omega)
    replace o5 := o5.below b7 (by omega)
    clear b7
    go_wp2_with fail
    refine (SolveRest_any _ _ _ _ _ _ _ _ _ _ _ o4.rd o5.rd o6.rd (by omega) (by omega) (by omega) rfl rfl rfl).mono ?_
    rintro e w8 ⟨rfl, b8⟩
    have s8 := b8.size
    replace B := bel_trans B b8
    replace o4 := o4.below b8 (by omega)
    replace o5 := o5.below b8 (by omega)
    replace o6 := o6.below b8 (by omega)
    clear b8
    go_wp2_with fail
    refine (toVisS_any _ _ _ _ (h1.below B (Nat.le_refl _)) (by omega) rfl).mono ?_
    rintro e w9 ⟨A7, rfl, o7, b9⟩
    have s9 := b9.size
    replace B := bel_trans B b9
    replace o4 := o4.below b9 (by omega)
    replace o5 := o5.below b9 (by omega)
    replace o6 := o6.below b9 (by omega)
    clear b9
    go_wp2_with fail
    refine (eqVisS_any _ _ _ _ _ _ _ o4.rd o7.rd (by omega) (by omega) rfl rfl).mono ?_
    rintro e w10 ⟨rfl, b10⟩
    have s10 := b10.size
    replace B := bel_trans B b10
    replace o4 := o4.below b10 (by omega)
    replace o5 := o5.below b10 (by omega)
    replace o6 := o6.below b10 (by omega)
    replace o7 := o7.below b10 (by omega)
    clear b10
    clear o7
    go_wp2_with fail
    refine (toVisS_any _ _ _ _ (h2.below B (Nat.le_refl _)) (by omega) rfl).mono ?_
    rintro e w11 ⟨A8, rfl, o8, b11⟩
    have s11 := b11.size
    replace B := bel_trans B b11
    replace o4 := o4.below b11 (by omega)
    replace o5 := o5.below b11 (by omega)
    replace o6 := o6.below b11 (by omega)
    clear b11
    go_wp2_with fail
    refine (eqVisS_any _ _ _ _ _ _ _ o5.rd o8.rd (by omega) (by omega) rfl rfl).mono ?_
    rintro e w12 ⟨rfl, b12⟩
    have s12 := b12.size
    replace B := bel_trans B b12
    replace o4 := o4.below b12 (by omega)
    replace o5 := o5.below b12 (by omega)
    replace o6 := o6.below b12 (by omega)
    replace o8 := o8.below b12 (by omega)
    clear b12
    clear o8
    go_wp2_with fail
    refine (toIntS_any _ _ _ _ (h3.below B (Nat.le_refl _)) (by omega) rfl).mono ?_
    rintro e w13 ⟨A9, rfl, o9, b13⟩
    have s13 := b13.size
    replace B := bel_trans B b13
    replace o4 := o4.below b13 (by omega)
    replace o5 := o5.below b13 (by omega)
    replace o6 := o6.below b13 (by omega)
    clear b13
    go_wp2_with fail
    refine (eqIntS_any _ _ _ _ _ _ _ o6.rd o9.rd (by omega) (by omega) rfl rfl).mono ?_
    rintro e w14 ⟨rfl, b14⟩
    have s14 := b14.size
    replace B := bel_trans B b14
    replace o4 := o4.below b14 (by omega)
    replace o5 := o5.below b14 (by omega)
    replace o6 := o6.below b14 (by omega)
    replace o9 := o9.below b14 (by omega)
    clear b14
    clear o9
    go_wp2
    go_ret
    exact ⟨rfl, B⟩

set_option maxRecDepth 100000 in
theorem lifted (os : Os) (started : os.Started) (H : Type) (enc : TypeId × Value → H) :
    ReturnsInHanded {} Try.checked os 10 .any (Rows.fnExactSolveRestSpec.pre6 enc Try.prog Try.f10 Rows.fnExactSolveRestRow.domain false) (Rows.fnExactSolveRestSpec.post enc Try.prog Try.f10 false true false false) := by
  refine returnsInHanded_of_change (C := Try.checked) own started (by kernel_rfl) Try.func10
    (ChangeSpec.witness6 (enc := enc) (C := Try.checked) false ⟨#[], #[.int .i64 0, .slice none 0 0, .slice none 0 0, .slice none 0 0], []⟩ 8 (by kernel_rfl) (by kernel_rfl) (by kernel_rfl) (by kernel_rfl)) ?_
  intro W base args ds gs before hval0 hW hcnd _
  have hval : ∀ (j : Nat) t v, Try.f10.params[j]? = some t → args[j]? = some v → Value.okWide Try.prog W .any base t v := hval0
  have hW' := hW
  obtain ⟨p, q, hA0, hV, rfl, hfz, hnd⟩ := hW
  have hA : DataW.TrodAll enc Try.prog W 0 (fun _ => true) true Try.f10.params.toList args.toList ds p := hA0
  rw [Try.params10] at hA hval
  obtain ⟨v0, vs0, d0, ds0, p0, q0, hargs, rfl, rfl, h0, r0⟩ := trodAll_cons hA
  obtain ⟨v1, vs1, d1, ds1, p1, q1, rfl, rfl, rfl, h1, r1⟩ := trodAll_cons r0
  obtain ⟨v2, vs2, d2, ds2, p2, q2, rfl, rfl, rfl, h2, r2⟩ := trodAll_cons r1
  obtain ⟨v3, vs3, d3, ds3, p3, q3, rfl, rfl, rfl, h3, r3⟩ := trodAll_cons r2
  obtain ⟨rfl, rfl, rfl⟩ := trodAll_nil r3
  obtain rfl : args = #[v0, v1, v2, v3] := by cases args; simp_all
  obtain ⟨rfl, rfl⟩ := trodVars_none hV
  obtain ⟨a0, rfl, rfl, rfl, w0⟩ := open_int Try.underlying3 (hval 0 3 v0 rfl rfl) h0
  obtain ⟨a1, len1, cap1, rfl⟩ := okWide_slice Try.underlying41 (hval 1 41 v1 rfl rfl)
  have k1 := h1
  have lt1 : ∀ x ∈ p1, x.block < W.heap.size := by obtain ⟨m, hm⟩ := k1; exact DataW.trod_lt m _ _ _ hm
  obtain ⟨z1, n1, w1, l1, x1⟩ := in_pairs Try.underlying41 Try.underlying75 Try.underlying3 ⟨rfl, rfl, rfl, rfl⟩ (by kernel_rfl) (by kernel_rfl) h1
  obtain ⟨a2, len2, cap2, rfl⟩ := okWide_slice Try.underlying41 (hval 2 41 v2 rfl rfl)
  have k2 := h2
  have lt2 : ∀ x ∈ p2, x.block < W.heap.size := by obtain ⟨m, hm⟩ := k2; exact DataW.trod_lt m _ _ _ hm
  obtain ⟨z2, n2, w2, l2, x2⟩ := in_pairs Try.underlying41 Try.underlying75 Try.underlying3 ⟨rfl, rfl, rfl, rfl⟩ (by kernel_rfl) (by kernel_rfl) h2
  obtain ⟨a3, len3, cap3, rfl⟩ := okWide_slice Try.underlying26 (hval 3 26 v3 rfl rfl)
  have k3 := h3
  have lt3 : ∀ x ∈ p3, x.block < W.heap.size := by obtain ⟨m, hm⟩ := k3; exact DataW.trod_lt m _ _ _ hm
  obtain ⟨z3, n3, w3, _, _⟩ := in_ints Try.underlying26 Try.underlying3 (by kernel_rfl) h3
  clear hA0 hval0
  refine (walk W a0 w0 a1 len1 cap1 z1 n1 w1 (Nat.le_trans l1 x1) a2 len2 cap2 z2 n2 w2 (Nat.le_trans l2 x2) a3 len3 cap3 z3 n3 w3).mono fun e W' ⟨he, bel⟩ => ?_
  subst he
  exact ⟨_, rfl, _, _, _, [], _, [], hW', trodAll_mk1 (shut_bool Try.underlying4 _), (trodAll_cons_mk (shut_int Try.underlying3 w0) (trodAll_cons_mk (Below.trod laidOut (by kernel_rfl) (of_decide_eq_true (by kernel_rfl)) k1 bel lt1) (trodAll_cons_mk (Below.trod laidOut (by kernel_rfl) (of_decide_eq_true (by kernel_rfl)) k2 bel lt2) (trodAll_cons_mk (Below.trod laidOut (by kernel_rfl) (of_decide_eq_true (by kernel_rfl)) k3 bel lt3) trodAll_mk0)))), rfl, bel.frame _, fun h => by cases h⟩

theorem over : Rows.fnExactSolveRestRow.holds Try.pinned (OpenSpec.ofChange Rows.fnExactSolveRestSpec) :=
  OpenClaim.holds_of_wide 10 Try.f10 rfl rfl rfl rfl rfl rfl rfl ⟨rfl, rfl, rfl, rfl, rfl⟩ rfl rfl rfl rfl rfl (by kernel_rfl) Try.func10 (by kernel_rfl)
    (of_decide_eq_true (by kernel_rfl)) (by unfold Func.isWrapper; first | (rw [if_pos (by decide +kernel)]; kernel_rfl) | (rw [if_neg (by decide +kernel)]; exact ⟨rfl, rfl⟩))
    (fun os started H enc _ => lifted os started H enc)

theorem proved : Rows.FnExactSolveRestSaid := over
#print axioms proved
end Go.Proofs.Ytpdekpeknnlfmaa.fnExactSolveRest
