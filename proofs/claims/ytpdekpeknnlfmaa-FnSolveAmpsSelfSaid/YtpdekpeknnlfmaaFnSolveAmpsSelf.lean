/- A list needs no amplitudes for itself. For every input; each argument reads afterwards as it read before. -/
import Derived.Test.YtpdekpeknnlfmaaFrame
import Derived.Test.YtpdekpeknnlfmaaAmpsT
import Derived.Test.YtpdekpeknnlfmaaDrawSolve
import Derived.Test.YtpdekpeknnlfmaaCampP
namespace Go.Proofs.Ytpdekpeknnlfmaa.fnSolveAmpsSelf
open Go.ChangeShapes Go.WideShapes Go.ChangeAt Go.RowKit Go.Deep
set_option linter.unusedVariables false

set_option maxHeartbeats 4000000 in
set_option maxRecDepth 100000 in
theorem walk (w : World) (a0 : Option Addr) (len0 cap0 : Nat) (h0 : Bytes w a0 len0 w.heap.size) (k0 : len0 ≤ cap0) :
    Calls Try.prog 3 #[.slice a0 len0 cap0] w fun e w' => e = .returned (.bool true) ∧ Below w.heap.size w w' := by
  by_cases gl0 : len0 ≤ 1048576
  case neg =>
    go_enter Try.func3, Try.ntmps3
    go_wp2
    go_ret
    exact ⟨rfl, Below.refl _ _⟩
  case pos =>
    have B := Below.refl w.heap.size w
    go_enter Try.func3, Try.ntmps3
    go_wp2_with fail
    refine (DrawSolveAmps_any _ _ _ _ h0 k0).mono ?_
    rintro e w1 ⟨N, A, A2, c, c2, as_, bs, rfl, n2, n6, la, lb, o, o2, b1⟩
    have s1 := b1.size
    replace B := bel_trans B b1
    clear b1
    go_wp2_with fail
    refine (SolveAmps_any _ _ _ _ _ _ _ _ o.rd o2.rd (by omega) (by omega) rfl rfl).mono ?_
    rintro e w2 ⟨Ag, cg, rfl, clg, g, b2⟩
    have s2 := b2.size
    replace B := bel_trans B b2
    replace o := o.below b2 (by omega)
    replace o2 := o2.below b2 (by omega)
    clear b2
    go_wp2_with fail
    refine (sSolveAmps_any _ _ _ _ _ _ _ _ o.rd o2.rd (by omega) (by omega) rfl rfl).mono ?_
    rintro e w3 ⟨Av, cv, rfl, clv, v, b3⟩
    have s3 := b3.size
    replace B := bel_trans B b3
    replace o := o.below b3 (by omega)
    replace o2 := o2.below b3 (by omega)
    replace g := g.below b3 (by omega)
    clear b3
    have rl : (solveAmps (N : Int) as_ bs).1.length ≤ 1048592 := amps_len _ _ _
    cases hok : (solveAmps (N : Int) as_ bs).2 with
    | false =>
      go_wp2_with fail
      refine (sameInts_any _ _ _ _ _ _ _ g.rd v.rd rl rl rfl rfl).mono ?_
      rintro e w4 ⟨rfl, b4⟩
      have s4 := b4.size
      replace B := bel_trans B b4
      replace o := o.below b4 (by omega)
      replace o2 := o2.below b4 (by omega)
      replace g := g.below b4 (by omega)
      replace v := v.below b4 (by omega)
      clear b4
      go_wp2_with fail
      refine (sameInts_any _ _ _ _ _ _ _ g.rd v.rd rl rl rfl rfl).mono ?_
      rintro e w5 ⟨rfl, b5⟩
      have s5 := b5.size
      replace B := bel_trans B b5
      replace o := o.below b5 (by omega)
      replace o2 := o2.below b5 (by omega)
      replace g := g.below b5 (by omega)
      replace v := v.below b5 (by omega)
      clear b5
      go_wp2
      go_ret
      exact ⟨rfl, B⟩
    | true =>
    go_wp2_with fail
    refine (sameInts_any _ _ _ _ _ _ _ g.rd v.rd rl rl rfl rfl).mono ?_
    rintro e w4 ⟨rfl, b4⟩
    have s4 := b4.size
    replace B := bel_trans B b4
    replace o := o.below b4 (by omega)
    replace o2 := o2.below b4 (by omega)
    replace g := g.below b4 (by omega)
    replace v := v.below b4 (by omega)
    clear b4
    clear v
    obtain ⟨N', eN, n3, n7, h1, h2, LO', hbd, hfit⟩ := amps_fit hok
    obtain rfl : N = N' := by omega
    have SQ := amps_square hok
    rw [Int.toNat_natCast] at SQ
    clear eN hbd hfit hok
    have LO := Lib.hid LO'
    have LA := Lib.hid (visB_len h1)
    have LB := Lib.hid (visB_len h2)
    have AP := Lib.hid (amps_self n3 h1)
    have k1 := gk_nb n7 (show 0 < N by omega) (show 1 < N by omega) (by omega)
    have k2 := gk_nb n7 (show 0 < N by omega) (show 2 < N by omega) (by omega)
    have k3 := gk_nb n7 (show 1 < N by omega) (show 2 < N by omega) (by omega)
    have HB1 := Lib.hid (show bi (N : Int) 0 1 = ((gk N 0 1 : Nat) : Int) from bi_mk (I := 0) (J := 1) (by omega) n7 (by omega) (by omega) (by omega))
    have HB2 := Lib.hid (show bi (N : Int) 0 2 = ((gk N 0 2 : Nat) : Int) from bi_mk (I := 0) (J := 2) (by omega) n7 (by omega) (by omega) (by omega))
    have HB3 := Lib.hid (show bi (N : Int) 1 2 = ((gk N 1 2 : Nat) : Int) from bi_mk (I := 1) (J := 2) (by omega) n7 (by omega) (by omega) (by omega))
    have SQ := Lib.hid SQ
    clear LO'
    go_wp2_with fail
    refine (SolveAmps_any _ _ _ _ _ _ _ _ o.rd o.rd (by omega) (by omega) rfl rfl).mono ?_
    rintro e w5 ⟨Ax1', cx1', rfl, clx1', x1', b5⟩
    have s5 := b5.size
    replace B := bel_trans B b5
    replace o := o.below b5 (by omega)
    replace o2 := o2.below b5 (by omega)
    replace g := g.below b5 (by omega)
    clear b5
    obtain ⟨p1, p2, p3⟩ := AP.out
    have LX := Lib.hid p2
    rw [p1]
    clear p1 p2 AP
    generalize (solveAmps (N : Int) as_ as_).1 = xs at *
    generalize (solveAmps (N : Int) as_ bs).1 = ys at *
    have PX := Lib.hid p3
    have BH := Lib.hid B
    clear B p3 h1 h2
    go_wp2
    go_loopw [12] (fun i wr => ∃ q : Nat, q ≤ N ∧ i = .int .i64 q ∧ Below w5.heap.size w5 wr) (fun i _ => N - (intOf i).toNat)
    case atStart => exact ⟨0, Nat.zero_le _, rfl, Below.refl _ _⟩
    case round =>
      obtain ⟨q, hq, rfl, hB⟩ := hrel
      by_cases hlt : q < N
      · obtain ⟨q1, f1, e1, _, hc1⟩ := (x1'.below hB (by omega)).rd.int_at (k := q) (by rw [LX.out]; exact hlt)
        subst e1
        rw [PX.out q hlt] at hc1
        have i1 : (q : Int) < (xs.length : Int) := by rw [LX.out]; omega
        have ne : ((xs.length : Int) != (N : Int)) = false := by rw [LX.out]; simp
        have j1 : (q : Int) < (N : Int) := by omega
        go_wp2
        go_roundw
        case rel => exact ⟨q + 1, by omega, by go_num, hB⟩
        case measure => simp [intOf]; omega
      · obtain rfl : q = N := by omega
        obtain ⟨N, rfl⟩ : ∃ N : Nat, N = q := ⟨_, rfl⟩
        have g' := g.below hB (by omega)
        have o' := o.below hB (by omega)
        have o2' := o2.below hB (by omega)
        obtain ⟨q1, f1, e1, _, c0⟩ := g'.rd.int_at (k := 0) (by rw [LO.out]; omega)
        subst e1
        rw [Nat.add_zero] at c0
        obtain ⟨q2, f2, e2, _, a1, _⟩ := o'.rd.pair_at (k := gk N 0 1) (by rw [LA.out]; exact k1)
        subst e2
        obtain ⟨q2', f2', e2, _, a2, _⟩ := o'.rd.pair_at (k := gk N 0 2) (by rw [LA.out]; exact k2)
        injection e2 with e2
        injection e2 with e21 e22
        subst e21 e22
        obtain ⟨q2', f2', e2, _, a3, _⟩ := o'.rd.pair_at (k := gk N 1 2) (by rw [LA.out]; exact k3)
        injection e2 with e2
        injection e2 with e21 e22
        subst e21 e22
        obtain ⟨q3, f3, e3, _, d1, _⟩ := o2'.rd.pair_at (k := gk N 0 1) (by rw [LB.out]; exact k1)
        subst e3
        obtain ⟨q3', f3', e3, _, d2, _⟩ := o2'.rd.pair_at (k := gk N 0 2) (by rw [LB.out]; exact k2)
        injection e3 with e3
        injection e3 with e31 e32
        subst e31 e32
        obtain ⟨q3', f3', e3, _, d3, _⟩ := o2'.rd.pair_at (k := gk N 1 2) (by rw [LB.out]; exact k3)
        injection e3 with e3
        injection e3 with e31 e32
        subst e31 e32
        have i1 : ((gk N 0 1 : Nat) : Int) < (as_.length : Int) := by rw [LA.out]; omega
        have i2 : ((gk N 0 2 : Nat) : Int) < (as_.length : Int) := by rw [LA.out]; omega
        have i3 : ((gk N 1 2 : Nat) : Int) < (as_.length : Int) := by rw [LA.out]; omega
        have i4 : ((gk N 0 1 : Nat) : Int) < (bs.length : Int) := by rw [LB.out]; omega
        have i5 : ((gk N 0 2 : Nat) : Int) < (bs.length : Int) := by rw [LB.out]; omega
        have i6 : ((gk N 1 2 : Nat) : Int) < (bs.length : Int) := by rw [LB.out]; omega
        have i7 : (0 : Int) < (ys.length : Int) := by rw [LO.out]; omega
        have HH := Lib.hid hB
        clear g' o' o2' g o o2 x1' LA LB LO LX PX hB k1 k2 k3
        go_wp2_with fail
        refine (BaseIndex_any _ _ _ _).mono ?_
        rintro e w' ⟨rfl, rfl⟩
        rw [HB1.out]
        go_wp2_with fail
        refine (BaseIndex_any _ _ _ _).mono ?_
        rintro e w' ⟨rfl, rfl⟩
        rw [HB2.out]
        go_wp2_with fail
        refine (BaseIndex_any _ _ _ _).mono ?_
        rintro e w' ⟨rfl, rfl⟩
        rw [HB3.out]
        clear HB1 HB2 HB3
        generalize gk N 0 1 = I at *
        generalize gk N 0 2 = J at *
        generalize gk N 1 2 = K at *
        generalize g1 as_ I = x1 at *
        generalize g1 as_ J = x2 at *
        generalize g1 as_ K = x3 at *
        generalize g1 bs I = y1 at *
        generalize g1 bs J = y2 at *
        generalize g1 bs K = y3 at *
        generalize gi ys 0 = z at *
        go_wp2_with fail
        go_quiet (fail)
        go_wp2
        go_ret
        exact ⟨ret_bool (by
          have h := SQ.out
          first
            | (rw [beq_iff_eq]; simp only [wrap64_mul]; rw [h]; done)
            | (simp only [wrap64_mul]; rw [h]; simp; done)), bel_trans BH.out (below_drewN HH.out _)⟩

set_option maxRecDepth 100000 in
theorem lifted (os : Os) (started : os.Started) (H : Type) (enc : TypeId × Value → H) :
    ReturnsInHanded {} Try.checked os 3 .any (Rows.fnSolveAmpsSelfSpec.pre6 enc Try.prog Try.f3 Rows.fnSolveAmpsSelfRow.domain false) (Rows.fnSolveAmpsSelfSpec.post enc Try.prog Try.f3 false true false false) := by
  refine returnsInHanded_of_change (C := Try.checked) own started (by kernel_rfl) Try.func3
    (ChangeSpec.witness6 (enc := enc) (C := Try.checked) false ⟨#[], #[.slice none 0 0], []⟩ 8 (by kernel_rfl) (by kernel_rfl) (by kernel_rfl) (by kernel_rfl)) ?_
  intro W base args ds gs before hval0 hW hcnd _
  have hval : ∀ (j : Nat) t v, Try.f3.params[j]? = some t → args[j]? = some v → Value.okWide Try.prog W .any base t v := hval0
  have hW' := hW
  obtain ⟨p, q, hA0, hV, rfl, hfz, hnd⟩ := hW
  have hA : DataW.TrodAll enc Try.prog W 0 (fun _ => true) true Try.f3.params.toList args.toList ds p := hA0
  rw [Try.params3] at hA hval
  obtain ⟨v0, vs0, d0, ds0, p0, q0, hargs, rfl, rfl, h0, r0⟩ := trodAll_cons hA
  obtain ⟨rfl, rfl, rfl⟩ := trodAll_nil r0
  obtain rfl : args = #[v0] := by cases args; simp_all
  obtain ⟨rfl, rfl⟩ := trodVars_none hV
  obtain ⟨a0, len0, cap0, rfl⟩ := okWide_slice Try.underlying22 (hval 0 22 v0 rfl rfl)
  have k0 := h0
  have lt0 : ∀ x ∈ p0, x.block < W.heap.size := by obtain ⟨m, hm⟩ := k0; exact DataW.trod_lt m _ _ _ hm
  obtain ⟨z0, n0, u0, f0, c0⟩ := in_ints Try.underlying22 Try.underlying5 (by kernel_rfl) h0
  have w0 := Rd.bytes u0 n0 f0
  clear hA0 hval0
  refine (walk W a0 len0 cap0 w0 c0).mono fun e W' ⟨he, bel⟩ => ?_
  subst he
  exact ⟨_, rfl, _, _, _, [], _, [], hW', trodAll_mk1 (shut_bool Try.underlying4 _), (trodAll_cons_mk (Below.trod laidOut (by kernel_rfl) (of_decide_eq_true (by kernel_rfl)) k0 bel lt0) trodAll_mk0), rfl, bel.frame _, fun h => by cases h⟩

theorem over : Rows.fnSolveAmpsSelfRow.holds Try.pinned (OpenSpec.ofChange Rows.fnSolveAmpsSelfSpec) :=
  OpenClaim.holds_of_wide 3 Try.f3 rfl rfl rfl rfl rfl rfl rfl ⟨rfl, rfl, rfl, rfl, rfl⟩ rfl rfl rfl rfl rfl (by kernel_rfl) Try.func3 (by kernel_rfl)
    (of_decide_eq_true (by kernel_rfl)) (by unfold Func.isWrapper; first | (rw [if_pos (by decide +kernel)]; kernel_rfl) | (rw [if_neg (by decide +kernel)]; exact ⟨rfl, rfl⟩))
    (fun os started H enc _ => lifted os started H enc)

theorem proved : Rows.FnSolveAmpsSelfSaid := over
#print axioms proved
end Go.Proofs.Ytpdekpeknnlfmaa.fnSolveAmpsSelf
