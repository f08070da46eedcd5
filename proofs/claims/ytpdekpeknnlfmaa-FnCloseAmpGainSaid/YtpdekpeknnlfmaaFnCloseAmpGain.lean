/- Gains are not seen in closure amplitudes. For every input; each argument reads afterwards as it read before. -/
import Derived.Test.YtpdekpeknnlfmaaFrame
import Derived.Test.YtpdekpeknnlfmaaApplyA
import Derived.Test.YtpdekpeknnlfmaaApplyS
import Derived.Test.YtpdekpeknnlfmaaDrawApply
import Derived.Test.YtpdekpeknnlfmaaApplyL
import Derived.Test.YtpdekpeknnlfmaaCampA
namespace Go.Proofs.Ytpdekpeknnlfmaa.fnCloseAmpGain
open Go.ChangeShapes Go.WideShapes Go.ChangeAt Go.RowKit Go.Deep
set_option linter.unusedVariables false

set_option maxHeartbeats 4000000 in
set_option maxRecDepth 100000 in
theorem walk (w : World) (a0 : Option Addr) (len0 cap0 : Nat) (h0 : Bytes w a0 len0 w.heap.size) (k0 : len0 ≤ cap0) (a1 : Option Addr) (len1 cap1 : Nat) (h1 : Bytes w a1 len1 w.heap.size) (k1 : len1 ≤ cap1) :
    Calls Try.prog 14 #[.slice a0 len0 cap0, .slice a1 len1 cap1] w fun e w' => e = .returned (.bool true) ∧ Below w.heap.size w w' := by
  by_cases gl0 : len0 ≤ 1048576
  case neg =>
    go_enter Try.func14, Try.ntmps14
    go_wp2
    go_ret
    exact ⟨rfl, Below.refl _ _⟩
  by_cases gl1 : len1 ≤ 1048576
  case neg =>
    go_enter Try.func14, Try.ntmps14
    go_wp2
    go_ret
    exact ⟨rfl, Below.refl _ _⟩
  case pos =>
    have B := Below.refl w.heap.size w
    go_enter Try.func14, Try.ntmps14
    go_wp2_with fail
    refine (DrawGainApply_any _ _ _ _ h0 k0).mono ?_
    rintro e w1 ⟨N, A, A2, c, c2, as_, bs, rfl, n2, n6, la, lb, o, o2, b1⟩
    have s1 := b1.size
    replace B := bel_trans B b1
    clear b1
    go_wp2_with fail
    refine (GainApply_any _ _ _ _ _ _ _ _ o.rd o2.rd (by omega) (by omega) rfl rfl).mono ?_
    rintro e w2 ⟨Ag, cg, rfl, clg, g, b2⟩
    have s2 := b2.size
    replace B := bel_trans B b2
    replace o := o.below b2 (by omega)
    replace o2 := o2.below b2 (by omega)
    clear b2
    go_wp2_with fail
    refine (sGainApply_any _ _ _ _ _ _ _ _ o.rd o2.rd (by omega) (by omega) rfl rfl).mono ?_
    rintro e w3 ⟨Av, cv, rfl, clv, v, b3⟩
    have s3 := b3.size
    replace B := bel_trans B b3
    replace o := o.below b3 (by omega)
    replace o2 := o2.below b3 (by omega)
    replace g := g.below b3 (by omega)
    clear b3
    have rl : (gainApply (N : Int) as_ bs).1.length ≤ 1048592 := gainApply_len _ _ _
    cases hok : (gainApply (N : Int) as_ bs).2 with
    | false =>
      go_wp2_with fail
      refine (sameVis_any _ _ _ _ _ _ _ g.rd v.rd rl rl rfl rfl).mono ?_
      rintro e w4 ⟨rfl, b4⟩
      have s4 := b4.size
      replace B := bel_trans B b4
      replace o := o.below b4 (by omega)
      replace o2 := o2.below b4 (by omega)
      replace g := g.below b4 (by omega)
      replace v := v.below b4 (by omega)
      clear b4
      go_wp2_with fail
      refine (sameVis_any _ _ _ _ _ _ _ g.rd v.rd rl rl rfl rfl).mono ?_
      rintro e w5 ⟨rfl, b5⟩
      have s5 := b5.size
      replace B := bel_trans B b5
      replace o := o.below b5 (by omega)
      replace o2 := o2.below b5 (by omega)
      replace g := g.below b5 (by omega)
      replace v := v.below b5 (by omega)
      clear b5
      go_wp2
      go_ret
      exact ⟨rfl, B⟩
    | true =>
    go_wp2_with fail
    refine (sameVis_any _ _ _ _ _ _ _ g.rd v.rd rl rl rfl rfl).mono ?_
    rintro e w4 ⟨rfl, b4⟩
    have s4 := b4.size
    replace B := bel_trans B b4
    replace o := o.below b4 (by omega)
    replace o2 := o2.below b4 (by omega)
    replace g := g.below b4 (by omega)
    replace v := v.below b4 (by omega)
    clear b4
    clear v
    obtain ⟨h1, h2, h3, hE⟩ := apply_ok hok
    have hN := vis_N h1
    have LO := Lib.hid (show visB (N : Int) (gainApply (N : Int) as_ bs).1 = true by rw [hE]; exact h3)
    clear h3 hE
    by_cases n4 : N < 4
    case pos =>
      go_wp2_with fail
      refine (VisValid_any _ _ _ _ _ g.rd rl rfl).mono ?_
      rintro e w5 ⟨rfl, b5⟩
      have s5 := b5.size
      replace B := bel_trans B b5
      replace o := o.below b5 (by omega)
      replace o2 := o2.below b5 (by omega)
      replace g := g.below b5 (by omega)
      clear b5
      rw [LO.out]
      go_wp2
      go_ret
      exact ⟨rfl, B⟩
    case neg =>
      obtain ⟨a, ha⟩ : ∃ a : Nat, a = len1 % N := ⟨_, rfl⟩
      have han : a < N := by rw [ha]; exact Nat.mod_lt _ (by omega)
      have ek : (len1 : Int) % (N : Int) = (a : Int) := by rw [ha]; omega
      obtain ⟨m1, hm1⟩ : ∃ m : Nat, m = (a + 1) % N := ⟨_, rfl⟩
      obtain ⟨m2, hm2⟩ : ∃ m : Nat, m = (a + 2) % N := ⟨_, rfl⟩
      obtain ⟨m3, hm3⟩ : ∃ m : Nat, m = (a + 3) % N := ⟨_, rfl⟩
      obtain ⟨q1, q2, q3, q4, q5, q6, q7, q8, q9⟩ := four_mod (show 4 ≤ N by omega) hN.2 han hm1 hm2 hm3
      have E1 := Lib.hid (show ((a : Int) + 1).tmod (N : Int) = (m1 : Int) by rw [Int.tmod_eq_emod_of_nonneg (by omega), hm1]; simp)
      have E2 := Lib.hid (show ((a : Int) + 2).tmod (N : Int) = (m2 : Int) by rw [Int.tmod_eq_emod_of_nonneg (by omega), hm2]; simp)
      have E3 := Lib.hid (show ((a : Int) + 3).tmod (N : Int) = (m3 : Int) by rw [Int.tmod_eq_emod_of_nonneg (by omega), hm3]; simp)
      obtain ⟨p1, p2⟩ := camp_gain hok (apart4_mk (N := N) han q1 q2 q3 q4 q5 q6 q7 q8 q9)
      have P1 := Lib.hid p1
      have P2 := Lib.hid p2
      clear p1 p2 ha hm1 hm2 hm3 q4 q5 q6 q7 q8 q9
      have n4' : ¬ (N : Int) < 4 := by omega
      have EK := Lib.hid ek
      go_wp2_with fail
      rw [EK.out]
      clear ek
      have RD := Lib.hid (CloseAmp_any (N : Int) _ c as_ (a : Int) (m1 : Int) (m2 : Int) (m3 : Int) w4.drew o.rd (by omega) rfl)
      have B0 := Lib.hid ((Below.refl w4.heap.size w4).drew)
      have w1' : IntKind.i64.wrap ((a : Int) + 1) = (a : Int) + 1 := IntWalk.i64_in _ (by omega)
      have w2' : IntKind.i64.wrap ((a : Int) + 2) = (a : Int) + 2 := IntWalk.i64_in _ (by clear w1'; omega)
      have w3' : IntKind.i64.wrap ((a : Int) + 3) = (a : Int) + 3 := IntWalk.i64_in _ (by clear w1' w2'; omega)
      have v1' : ((a : Int) + 1).tmod (N : Int) = (m1 : Int) := E1.out
      have v2' : ((a : Int) + 2).tmod (N : Int) = (m2 : Int) := E2.out
      have v3' : ((a : Int) + 3).tmod (N : Int) = (m3 : Int) := E3.out
      have u1' : IntKind.i64.wrap (m1 : Int) = (m1 : Int) := IntWalk.i64_in _ (by clear w1' w2' w3' v1' v2' v3'; omega)
      have u2' : IntKind.i64.wrap (m2 : Int) = (m2 : Int) := IntWalk.i64_in _ (by clear w1' w2' w3' v1' v2' v3' u1'; omega)
      have u3' : IntKind.i64.wrap (m3 : Int) = (m3 : Int) := IntWalk.i64_in _ (by clear w1' w2' w3' v1' v2' v3' u1' u2'; omega)
      have hz : ((N : Int) == 0) = false := by clear w1' w2' w3' v1' v2' v3' u1' u2' u3'; simp; omega
      have hz2 : ¬ (N : Int) = 0 := by clear w1' w2' w3' v1' v2' v3' u1' u2' u3' hz; omega
      have hz3 : ¬ N = 0 := by clear w1' w2' w3' v1' v2' v3' u1' u2' u3' hz; omega
      have hz4 : (N == 0) = false := by simp [hz3]
      go_region_held3 (fun w' => Below w4.heap.size w4 w') (first | exact B1 | exact B0.out | go_keep) ((go_at_call 28; (with_reducible refine (RD.out).mono ?_); rintro e wn5 ⟨rfl, b1⟩; have B1 := bel_trans B0.out b1; clear b1))
      clear w1' w2' w3' v1' v2' v3' u1' u2' u3' hz hz2 hz3 hz4 RD B0
      obtain ⟨w5, rfl⟩ : ∃ wq : World, wq = wn5 := ⟨_, rfl⟩
      have b5 := B1
      clear B1
      have s5 := b5.size
      replace B := bel_trans B b5
      replace o := o.below b5 (by omega)
      replace o2 := o2.below b5 (by omega)
      replace g := g.below b5 (by omega)
      clear b5
      go_wp2_with fail
      have RD := Lib.hid (CloseAmp_any (N : Int) _ cg (gainApply (N : Int) as_ bs).1 (a : Int) (m1 : Int) (m2 : Int) (m3 : Int) w5.drew g.rd rl rfl)
      have B0 := Lib.hid ((Below.refl w5.heap.size w5).drew)
      have w1' : IntKind.i64.wrap ((a : Int) + 1) = (a : Int) + 1 := IntWalk.i64_in _ (by omega)
      have w2' : IntKind.i64.wrap ((a : Int) + 2) = (a : Int) + 2 := IntWalk.i64_in _ (by clear w1'; omega)
      have w3' : IntKind.i64.wrap ((a : Int) + 3) = (a : Int) + 3 := IntWalk.i64_in _ (by clear w1' w2'; omega)
      have v1' : ((a : Int) + 1).tmod (N : Int) = (m1 : Int) := E1.out
      have v2' : ((a : Int) + 2).tmod (N : Int) = (m2 : Int) := E2.out
      have v3' : ((a : Int) + 3).tmod (N : Int) = (m3 : Int) := E3.out
      have u1' : IntKind.i64.wrap (m1 : Int) = (m1 : Int) := IntWalk.i64_in _ (by clear w1' w2' w3' v1' v2' v3'; omega)
      have u2' : IntKind.i64.wrap (m2 : Int) = (m2 : Int) := IntWalk.i64_in _ (by clear w1' w2' w3' v1' v2' v3' u1'; omega)
      have u3' : IntKind.i64.wrap (m3 : Int) = (m3 : Int) := IntWalk.i64_in _ (by clear w1' w2' w3' v1' v2' v3' u1' u2'; omega)
      have hz : ((N : Int) == 0) = false := by clear w1' w2' w3' v1' v2' v3' u1' u2' u3'; simp; omega
      have hz2 : ¬ (N : Int) = 0 := by clear w1' w2' w3' v1' v2' v3' u1' u2' u3' hz; omega
      have hz3 : ¬ N = 0 := by clear w1' w2' w3' v1' v2' v3' u1' u2' u3' hz; omega
      have hz4 : (N == 0) = false := by simp [hz3]
      go_region_held3 (fun w' => Below w5.heap.size w5 w') (first | exact B1 | exact B0.out | go_keep) ((go_at_call 28; (with_reducible refine (RD.out).mono ?_); rintro e wn6 ⟨rfl, b1⟩; have B1 := bel_trans B0.out b1; clear b1))
      clear w1' w2' w3' v1' v2' v3' u1' u2' u3' hz hz2 hz3 hz4 RD B0
      obtain ⟨w6, rfl⟩ : ∃ wq : World, wq = wn6 := ⟨_, rfl⟩
      have b6 := B1
      clear B1
      have s6 := b6.size
      replace B := bel_trans B b6
      replace o := o.below b6 (by omega)
      replace o2 := o2.below b6 (by omega)
      replace g := g.below b6 (by omega)
      clear b6
      rw [P1.out, P2.out]
      go_wp2
      go_ret
      exact ⟨rfl, B⟩

set_option maxRecDepth 100000 in
theorem lifted (os : Os) (started : os.Started) (H : Type) (enc : TypeId × Value → H) :
    ReturnsInHanded {} Try.checked os 14 .any (Rows.fnCloseAmpGainSpec.pre6 enc Try.prog Try.f14 Rows.fnCloseAmpGainRow.domain false) (Rows.fnCloseAmpGainSpec.post enc Try.prog Try.f14 false true false false) := by
  refine returnsInHanded_of_change (C := Try.checked) own started (by kernel_rfl) Try.func14
    (ChangeSpec.witness6 (enc := enc) (C := Try.checked) false ⟨#[], #[.slice none 0 0, .slice none 0 0], []⟩ 8 (by kernel_rfl) (by kernel_rfl) (by kernel_rfl) (by kernel_rfl)) ?_
  intro W base args ds gs before hval0 hW hcnd _
  have hval : ∀ (j : Nat) t v, Try.f14.params[j]? = some t → args[j]? = some v → Value.okWide Try.prog W .any base t v := hval0
  have hW' := hW
  obtain ⟨p, q, hA0, hV, rfl, hfz, hnd⟩ := hW
  have hA : DataW.TrodAll enc Try.prog W 0 (fun _ => true) true Try.f14.params.toList args.toList ds p := hA0
  rw [Try.params14] at hA hval
  obtain ⟨v0, vs0, d0, ds0, p0, q0, hargs, rfl, rfl, h0, r0⟩ := trodAll_cons hA
  obtain ⟨v1, vs1, d1, ds1, p1, q1, rfl, rfl, rfl, h1, r1⟩ := trodAll_cons r0
  obtain ⟨rfl, rfl, rfl⟩ := trodAll_nil r1
  obtain rfl : args = #[v0, v1] := by cases args; simp_all
  obtain ⟨rfl, rfl⟩ := trodVars_none hV
  obtain ⟨a0, len0, cap0, rfl⟩ := okWide_slice Try.underlying22 (hval 0 22 v0 rfl rfl)
  have k0 := h0
  have lt0 : ∀ x ∈ p0, x.block < W.heap.size := by obtain ⟨m, hm⟩ := k0; exact DataW.trod_lt m _ _ _ hm
  obtain ⟨z0, n0, u0, f0, c0⟩ := in_ints Try.underlying22 Try.underlying5 (by kernel_rfl) h0
  have w0 := Rd.bytes u0 n0 f0
  obtain ⟨a1, len1, cap1, rfl⟩ := okWide_slice Try.underlying22 (hval 1 22 v1 rfl rfl)
  have k1 := h1
  have lt1 : ∀ x ∈ p1, x.block < W.heap.size := by obtain ⟨m, hm⟩ := k1; exact DataW.trod_lt m _ _ _ hm
  obtain ⟨z1, n1, u1, f1, c1⟩ := in_ints Try.underlying22 Try.underlying5 (by kernel_rfl) h1
  have w1 := Rd.bytes u1 n1 f1
  clear hA0 hval0
  refine (walk W a0 len0 cap0 w0 c0 a1 len1 cap1 w1 c1).mono fun e W' ⟨he, bel⟩ => ?_
  subst he
  exact ⟨_, rfl, _, _, _, [], _, [], hW', trodAll_mk1 (shut_bool Try.underlying4 _), (trodAll_cons_mk (Below.trod laidOut (by kernel_rfl) (of_decide_eq_true (by kernel_rfl)) k0 bel lt0) (trodAll_cons_mk (Below.trod laidOut (by kernel_rfl) (of_decide_eq_true (by kernel_rfl)) k1 bel lt1) trodAll_mk0)), rfl, bel.frame _, fun h => by cases h⟩

theorem over : Rows.fnCloseAmpGainRow.holds Try.pinned (OpenSpec.ofChange Rows.fnCloseAmpGainSpec) :=
  OpenClaim.holds_of_wide 14 Try.f14 rfl rfl rfl rfl rfl rfl rfl ⟨rfl, rfl, rfl, rfl, rfl⟩ rfl rfl rfl rfl rfl (by kernel_rfl) Try.func14 (by kernel_rfl)
    (of_decide_eq_true (by kernel_rfl)) (by unfold Func.isWrapper; first | (rw [if_pos (by decide +kernel)]; kernel_rfl) | (rw [if_neg (by decide +kernel)]; exact ⟨rfl, rfl⟩))
    (fun os started H enc _ => lifted os started H enc)

theorem proved : Rows.FnCloseAmpGainSaid := over
#print axioms proved
end Go.Proofs.Ytpdekpeknnlfmaa.fnCloseAmpGain
