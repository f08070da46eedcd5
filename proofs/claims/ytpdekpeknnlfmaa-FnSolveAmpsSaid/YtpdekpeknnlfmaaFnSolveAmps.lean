/- Solved amplitudes fit all baselines. For every input; each argument reads afterwards as it read before. -/
import Derived.Test.YtpdekpeknnlfmaaFrame
import Derived.Test.YtpdekpeknnlfmaaAmpsT
import Derived.Test.YtpdekpeknnlfmaaDrawSolve
import Derived.Test.YtpdekpeknnlfmaaBasePair
namespace Go.Proofs.Ytpdekpeknnlfmaa.fnSolveAmps
open Go.ChangeShapes Go.WideShapes Go.ChangeAt Go.RowKit Go.Deep
set_option linter.unusedVariables false

set_option maxHeartbeats 4000000 in
set_option maxRecDepth 100000 in
theorem walk (w : World) (a0 : Option Addr) (len0 cap0 : Nat) (h0 : Bytes w a0 len0 w.heap.size) (k0 : len0 ≤ cap0) (a1 : Option Addr) (len1 cap1 : Nat) (h1 : Bytes w a1 len1 w.heap.size) (k1 : len1 ≤ cap1) :
    Calls Try.prog 4 #[.slice a0 len0 cap0, .slice a1 len1 cap1] w fun e w' => e = .returned (.bool true) ∧ Below w.heap.size w w' := by
  by_cases gl0 : len0 ≤ 1048576
  case neg =>
    go_enter Try.func4, Try.ntmps4
    go_wp2
    go_ret
    exact ⟨rfl, Below.refl _ _⟩
  by_cases gl1 : len1 ≤ 1048576
  case neg =>
    go_enter Try.func4, Try.ntmps4
    go_wp2
    go_ret
    exact ⟨rfl, Below.refl _ _⟩
  case pos =>
    have B := Below.refl w.heap.size w
    go_enter Try.func4, Try.ntmps4
    go_wp2_with fail
    refine (DrawSolveAmps_any _ _ _ _ h0 k0).mono ?_
    rintro e w1 ⟨N, A, A2, c, c2, as_, bs, rfl, n2, n6, la, lb, o, o2, b1⟩
    have s1 := b1.size
    replace B := bel_trans B b1
    clear b1
    go_wp2_with fail
    refine (SolveAmps_any _ _ _ _ _ _ _ _ o.rd o2.rd (by omega) (by omega) rfl rfl).mono ?_
    rintro e w2 ⟨Ag, cg, rfl, clg, g, b2⟩
    have s2 := b2.size
    replace B := bel_trans B b2
    replace o := o.below b2 (by omega)
    replace o2 := o2.below b2 (by omega)
    clear b2
    go_wp2_with fail
    refine (sSolveAmps_any _ _ _ _ _ _ _ _ o.rd o2.rd (by omega) (by omega) rfl rfl).mono ?_
    rintro e w3 ⟨Av, cv, rfl, clv, v, b3⟩
    have s3 := b3.size
    replace B := bel_trans B b3
    replace o := o.below b3 (by omega)
    replace o2 := o2.below b3 (by omega)
    replace g := g.below b3 (by omega)
    clear b3
    have rl : (solveAmps (N : Int) as_ bs).1.length ≤ 1048592 := amps_len _ _ _
    cases hok : (solveAmps (N : Int) as_ bs).2 with
    | false =>
      go_wp2_with fail
      refine (sameInts_any _ _ _ _ _ _ _ g.rd v.rd rl rl rfl rfl).mono ?_
      rintro e w4 ⟨rfl, b4⟩
      have s4 := b4.size
      replace B := bel_trans B b4
      replace o := o.below b4 (by omega)
      replace o2 := o2.below b4 (by omega)
      replace g := g.below b4 (by omega)
      replace v := v.below b4 (by omega)
      clear b4
      go_wp2_with fail
      refine (sameInts_any _ _ _ _ _ _ _ g.rd v.rd rl rl rfl rfl).mono ?_
      rintro e w5 ⟨rfl, b5⟩
      have s5 := b5.size
      replace B := bel_trans B b5
      replace o := o.below b5 (by omega)
      replace o2 := o2.below b5 (by omega)
      replace g := g.below b5 (by omega)
      replace v := v.below b5 (by omega)
      clear b5
      go_wp2
      go_ret
      exact ⟨rfl, B⟩
    | true =>
    go_wp2_with fail
    refine (sameInts_any _ _ _ _ _ _ _ g.rd v.rd rl rl rfl rfl).mono ?_
    rintro e w4 ⟨rfl, b4⟩
    have s4 := b4.size
    replace B := bel_trans B b4
    replace o := o.below b4 (by omega)
    replace o2 := o2.below b4 (by omega)
    replace g := g.below b4 (by omega)
    replace v := v.below b4 (by omega)
    clear b4
    clear v
    obtain ⟨N', eN, n3, n7, h1, h2, LO', hbd, hfit⟩ := amps_fit hok
    obtain rfl : N = N' := by omega
    clear eN
    have hnb := nb_le n7
    have hnp := nb_pos (show 2 ≤ N by omega) n7
    have LO := Lib.hid LO'
    have LA := Lib.hid (visB_len h1)
    have LB := Lib.hid (visB_len h2)
    obtain ⟨k, hk⟩ : ∃ k : Nat, k = len1 % nb N := ⟨_, rfl⟩
    have hkn : k < nb N := by rw [hk]; exact Nat.mod_lt _ (by omega)
    have ek : (len1 : Int) % (as_.length : Int) = (k : Int) := by rw [LA.out, hk]; omega
    have ek2 : ¬ as_ = [] := fun e => by have := LA.out; rw [e] at this; simp at this; omega
    obtain ⟨bb1, bb2⟩ := bs_lt n7 hkn
    have ft := hfit k hkn
    have vk := vis_at h2 hkn
    clear hk hfit LO' hok
    generalize (solveAmps (N : Int) as_ bs).1 = xs at *
    go_wp2_with fail
    refine (BasePair_yes _ _ _ (by omega) n7 hkn).mono ?_
    rintro e w5 ⟨rfl, b5⟩
    have s5 := b5.size
    replace B := bel_trans B b5
    replace o := o.below b5 (by omega)
    replace o2 := o2.below b5 (by omega)
    replace g := g.below b5 (by omega)
    clear b5
    have EK := Lib.hid ek
    have BH := Lib.hid B
    have FT := Lib.hid ft
    clear ek B ft
    go_wp2
    try rw [EK.out]
    go_loopw [16] (fun i wr => ∃ q : Nat, q ≤ N ∧ i = .int .i64 q ∧ Below w5.heap.size w5 wr) (fun i _ => N - (intOf i).toNat)
    case atStart => exact ⟨0, Nat.zero_le _, rfl, Below.refl _ _⟩
    case round =>
      obtain ⟨q, hq, rfl, hB⟩ := hrel
      by_cases hlt : q < N
      · obtain ⟨q1, f1, e1, _, hc1⟩ := (g.below hB (by omega)).rd.int_at (k := q) (by rw [LO.out]; exact hlt)
        subst e1
        obtain ⟨v1, v2⟩ := hbd q hlt
        have i1 : (q : Int) < (xs.length : Int) := by rw [LO.out]; omega
        have ne : ((xs.length : Int) != (N : Int)) = false := by rw [LO.out]; simp
        have j1 : (q : Int) < (N : Int) := by omega
        have d1 : decide (gi xs q < 1) = false := by simp; omega
        have d2 : decide (99 < gi xs q) = false := by simp; omega
        go_wp2
        go_roundw
        case rel => exact ⟨q + 1, by omega, by go_num, hB⟩
        case measure => simp [intOf]; omega
      · obtain rfl : q = N := by omega
        obtain ⟨N, rfl⟩ : ∃ N : Nat, N = q := ⟨_, rfl⟩
        have g' := g.below hB (by omega)
        have o' := o.below hB (by omega)
        have o2' := o2.below hB (by omega)
        obtain ⟨q1, f1, e1, _, c1, _⟩ := o'.rd.pair_at (k := k) (by rw [LA.out]; exact hkn)
        subst e1
        obtain ⟨q2, f2, e2, _, c2', _⟩ := o2'.rd.pair_at (k := k) (by rw [LB.out]; exact hkn)
        subst e2
        obtain ⟨q3, f3, e3, _, c3⟩ := g'.rd.int_at (k := b1 N k) (by rw [LO.out]; exact bb1)
        subst e3
        obtain ⟨q3', f3', e3, _, c4⟩ := g'.rd.int_at (k := b2 N k) (by rw [LO.out]; exact bb2)
        injection e3 with e3
        injection e3 with e31 e32
        subst e31 e32
        have i1 : (k : Int) < (as_.length : Int) := by rw [LA.out]; omega
        have i2 : (k : Int) < (bs.length : Int) := by rw [LB.out]; omega
        have i3 : ((b1 N k : Nat) : Int) < (xs.length : Int) := by rw [LO.out]; omega
        have i4 : ((b2 N k : Nat) : Int) < (xs.length : Int) := by rw [LO.out]; omega
        obtain ⟨p1, p2⟩ := mul_bd (x := g1 bs k) (y := gi xs (b1 N k)) (B := 1000000) (C := 99) (by omega) (by have := hbd _ bb1; omega)
        obtain ⟨p3, p4⟩ := mul_bd (x := g1 bs k * gi xs (b1 N k)) (y := gi xs (b2 N k)) (B := 99000000) (C := 99) (by omega) (by have := hbd _ bb2; omega)
        have ft := FT.out
        clear g' o' o2' g o o2 FT hbd vk LA LB LO EK
        generalize g1 as_ k = X at *
        generalize g1 bs k = Y at *
        generalize gi xs (b1 N k) = X1 at *
        generalize gi xs (b2 N k) = X2 at *
        generalize b1 N k = I at *
        generalize b2 N k = J at *
        obtain ⟨P1, hP1⟩ : ∃ y : Int, y = Y * X1 := ⟨_, rfl⟩
        rw [← hP1] at p1 p2 p3 p4 ft
        obtain ⟨P2, hP2⟩ : ∃ y : Int, y = P1 * X2 := ⟨_, rfl⟩
        rw [← hP2] at p3 p4 ft
        subst ft
        have e2 : Y * X1 = P1 := hP1.symm
        have e4 : P1 * X2 = X := hP2.symm
        have e1 : IntKind.i64.wrap (Y * X1) = P1 := by rw [e2]; exact IntWalk.i64_in _ (by omega)
        have e3 : IntKind.i64.wrap (P1 * X2) = X := by rw [e4]; exact IntWalk.i64_in _ (by omega)
        have e5 : IntKind.i64.wrap P1 = P1 := IntWalk.i64_in _ (by omega)
        have e6 : IntKind.i64.wrap X = X := IntWalk.i64_in _ (by omega)
        clear hP1 hP2
        go_wp2
        go_quiet (fail)
        clear e1 e2 e3 e4 e5 e6
        go_wp2
        trace_state
        go_ret
        exact ⟨rfl, bel_trans BH.out (below_drewN hB _)⟩

set_option maxRecDepth 100000 in
theorem lifted (os : Os) (started : os.Started) (H : Type) (enc : TypeId × Value → H) :
    ReturnsInHanded {} Try.checked os 4 .any (Rows.fnSolveAmpsSpec.pre6 enc Try.prog Try.f4 Rows.fnSolveAmpsRow.domain false) (Rows.fnSolveAmpsSpec.post enc Try.prog Try.f4 false true false false) := by
  refine returnsInHanded_of_change (C := Try.checked) own started (by kernel_rfl) Try.func4
    (ChangeSpec.witness6 (enc := enc) (C := Try.checked) false ⟨#[], #[.slice none 0 0, .slice none 0 0], []⟩ 8 (by kernel_rfl) (by kernel_rfl) (by kernel_rfl) (by kernel_rfl)) ?_
  intro W base args ds gs before hval0 hW hcnd _
  have hval : ∀ (j : Nat) t v, Try.f4.params[j]? = some t → args[j]? = some v → Value.okWide Try.prog W .any base t v := hval0
  have hW' := hW
  obtain ⟨p, q, hA0, hV, rfl, hfz, hnd⟩ := hW
  have hA : DataW.TrodAll enc Try.prog W 0 (fun _ => true) true Try.f4.params.toList args.toList ds p := hA0
  rw [Try.params4] at hA hval
  obtain ⟨v0, vs0, d0, ds0, p0, q0, hargs, rfl, rfl, h0, r0⟩ := trodAll_cons hA
  obtain ⟨v1, vs1, d1, ds1, p1, q1, rfl, rfl, rfl, h1, r1⟩ := trodAll_cons r0
  obtain ⟨rfl, rfl, rfl⟩ := trodAll_nil r1
  obtain rfl : args = #[v0, v1] := by cases args; simp_all
  obtain ⟨rfl, rfl⟩ := trodVars_none hV
  obtain ⟨a0, len0, cap0, rfl⟩ := okWide_slice Try.underlying22 (hval 0 22 v0 rfl rfl)
  have k0 := h0
  have lt0 : ∀ x ∈ p0, x.block < W.heap.size := by obtain ⟨m, hm⟩ := k0; exact DataW.trod_lt m _ _ _ hm
  obtain ⟨z0, n0, u0, f0, c0⟩ := in_ints Try.underlying22 Try.underlying5 (by kernel_rfl) h0
  have w0 := Rd.bytes u0 n0 f0
  obtain ⟨a1, len1, cap1, rfl⟩ := okWide_slice Try.underlying22 (hval 1 22 v1 rfl rfl)
  have k1 := h1
  have lt1 : ∀ x ∈ p1, x.block < W.heap.size := by obtain ⟨m, hm⟩ := k1; exact DataW.trod_lt m _ _ _ hm
  obtain ⟨z1, n1, u1, f1, c1⟩ := in_ints Try.underlying22 Try.underlying5 (by kernel_rfl) h1
  have w1 := Rd.bytes u1 n1 f1
  clear hA0 hval0
  refine (walk W a0 len0 cap0 w0 c0 a1 len1 cap1 w1 c1).mono fun e W' ⟨he, bel⟩ => ?_
  subst he
  exact ⟨_, rfl, _, _, _, [], _, [], hW', trodAll_mk1 (shut_bool Try.underlying4 _), (trodAll_cons_mk (Below.trod laidOut (by kernel_rfl) (of_decide_eq_true (by kernel_rfl)) k0 bel lt0) (trodAll_cons_mk (Below.trod laidOut (by kernel_rfl) (of_decide_eq_true (by kernel_rfl)) k1 bel lt1) trodAll_mk0)), rfl, bel.frame _, fun h => by cases h⟩

theorem over : Rows.fnSolveAmpsRow.holds Try.pinned (OpenSpec.ofChange Rows.fnSolveAmpsSpec) :=
  OpenClaim.holds_of_wide 4 Try.f4 rfl rfl rfl rfl rfl rfl rfl ⟨rfl, rfl, rfl, rfl, rfl⟩ rfl rfl rfl rfl rfl (by kernel_rfl) Try.func4 (by kernel_rfl)
    (of_decide_eq_true (by kernel_rfl)) (by unfold Func.isWrapper; first | (rw [if_pos (by decide +kernel)]; kernel_rfl) | (rw [if_neg (by decide +kernel)]; exact ⟨rfl, rfl⟩))
    (fun os started H enc _ => lifted os started H enc)

theorem proved : Rows.FnSolveAmpsSaid := over
#print axioms proved
end Go.Proofs.Ytpdekpeknnlfmaa.fnSolveAmps
