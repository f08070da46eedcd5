/- Applied amplitudes are solved. For every input; each argument reads afterwards as it read before. -/
import Derived.Test.YtpdekpeknnlfmaaFrame
import Derived.Test.YtpdekpeknnlfmaaApplyA
import Derived.Test.YtpdekpeknnlfmaaApplyS
import Derived.Test.YtpdekpeknnlfmaaDrawApply
import Derived.Test.YtpdekpeknnlfmaaApplyL
import Derived.Test.YtpdekpeknnlfmaaAmpsT
namespace Go.Proofs.Ytpdekpeknnlfmaa.fnSolveAmpsApply
open Go.ChangeShapes Go.WideShapes Go.ChangeAt Go.RowKit Go.Deep
set_option linter.unusedVariables false

set_option maxHeartbeats 4000000 in
set_option maxRecDepth 100000 in
theorem walk (w : World) (a0 : Option Addr) (len0 cap0 : Nat) (h0 : Bytes w a0 len0 w.heap.size) (k0 : len0 ≤ cap0) :
    Calls Try.prog 12 #[.slice a0 len0 cap0] w fun e w' => e = .returned (.bool true) ∧ Below w.heap.size w w' := by
  by_cases gl0 : len0 ≤ 1048576
  case neg =>
    go_enter Try.func12, Try.ntmps12
    go_wp2
    go_ret
    exact ⟨rfl, Below.refl _ _⟩
  case pos =>
    have B := Below.refl w.heap.size w
    go_enter Try.func12, Try.ntmps12
    go_wp2_with fail
    refine (DrawGainApply_any _ _ _ _ h0 k0).mono ?_
    rintro e w1 ⟨N, A, A2, c, c2, as_, bs, rfl, n2, n6, la, lb, o, o2, b1⟩
    have s1 := b1.size
    replace B := bel_trans B b1
    clear b1
    go_wp2_with fail
    refine (GainApply_any _ _ _ _ _ _ _ _ o.rd o2.rd (by omega) (by omega) rfl rfl).mono ?_
    rintro e w2 ⟨Ag, cg, rfl, clg, g, b2⟩
    have s2 := b2.size
    replace B := bel_trans B b2
    replace o := o.below b2 (by omega)
    replace o2 := o2.below b2 (by omega)
    clear b2
    go_wp2_with fail
    refine (sGainApply_any _ _ _ _ _ _ _ _ o.rd o2.rd (by omega) (by omega) rfl rfl).mono ?_
    rintro e w3 ⟨Av, cv, rfl, clv, v, b3⟩
    have s3 := b3.size
    replace B := bel_trans B b3
    replace o := o.below b3 (by omega)
    replace o2 := o2.below b3 (by omega)
    replace g := g.below b3 (by omega)
    clear b3
    have rl : (gainApply (N : Int) as_ bs).1.length ≤ 1048592 := gainApply_len _ _ _
    cases hok : (gainApply (N : Int) as_ bs).2 with
    | false =>
      go_wp2_with fail
      refine (sameVis_any _ _ _ _ _ _ _ g.rd v.rd rl rl rfl rfl).mono ?_
      rintro e w4 ⟨rfl, b4⟩
      have s4 := b4.size
      replace B := bel_trans B b4
      replace o := o.below b4 (by omega)
      replace o2 := o2.below b4 (by omega)
      replace g := g.below b4 (by omega)
      replace v := v.below b4 (by omega)
      clear b4
      go_wp2_with fail
      refine (sameVis_any _ _ _ _ _ _ _ g.rd v.rd rl rl rfl rfl).mono ?_
      rintro e w5 ⟨rfl, b5⟩
      have s5 := b5.size
      replace B := bel_trans B b5
      replace o := o.below b5 (by omega)
      replace o2 := o2.below b5 (by omega)
      replace g := g.below b5 (by omega)
      replace v := v.below b5 (by omega)
      clear b5
      go_wp2
      go_ret
      exact ⟨rfl, B⟩
    | true =>
    go_wp2_with fail
    refine (sameVis_any _ _ _ _ _ _ _ g.rd v.rd rl rl rfl rfl).mono ?_
    rintro e w4 ⟨rfl, b4⟩
    have s4 := b4.size
    replace B := bel_trans B b4
    replace o := o.below b4 (by omega)
    replace o2 := o2.below b4 (by omega)
    replace g := g.below b4 (by omega)
    replace v := v.below b4 (by omega)
    clear b4
    clear v
    obtain ⟨h1, h2, h3, hE⟩ := apply_ok hok
    have hN := vis_N h1
    have hnb := nb_le hN.2
    have VO := Lib.hid (show visB (N : Int) (gainApply (N : Int) as_ bs).1 = true by rw [hE]; exact h3)
    have LB := Lib.hid (gainB_len h2)
    have AP := Lib.hid (fun (n3 : 3 ≤ N) => amps_apply (gs := (List.range N).map (fun j => g1 bs j)) n3 VO.out h1 (fun j hj => by
      have := gain_at h2 hj
      simp [gi, hj]; omega) (fun p hp => by
      obtain ⟨x, y⟩ := bs_lt hN.2 hp
      rw [(apply_at hok hp).1]
      simp [gi, x, y]))
    clear hE h1 h2 h3
    go_wp2_with fail
    refine (SolveAmps_any _ _ _ _ _ _ _ _ g.rd o.rd rl (by omega) rfl rfl).mono ?_
    rintro e w5 ⟨Ax1', cx1', rfl, clx1', x1', b5⟩
    have s5 := b5.size
    replace B := bel_trans B b5
    replace o := o.below b5 (by omega)
    replace o2 := o2.below b5 (by omega)
    replace g := g.below b5 (by omega)
    clear b5
    by_cases n3 : N < 3
    · have T2 := Lib.hid (amps_two (n := (N : Int)) (ls := (gainApply (N : Int) as_ bs).1) (ms := as_) (by omega))
      have n3' : (N : Int) < 3 := by omega
      rw [T2.out]
      go_wp2
      go_ret
      exact ⟨rfl, B⟩
    have n3' : ¬ (N : Int) < 3 := by omega
    obtain ⟨p1, p2, p3⟩ := AP.out (by omega)
    have LX := Lib.hid p2
    have PX := Lib.hid (show ∀ j, j < N → gi (solveAmps (N : Int) (gainApply (N : Int) as_ bs).1 as_).1 j = g1 bs j from fun j hj => by rw [p3 j hj]; simp [gi, hj])
    rw [p1]
    clear p1 p2 p3 AP VO hok g
    generalize (solveAmps (N : Int) (gainApply (N : Int) as_ bs).1 as_).1 = xs at *
    have BH := Lib.hid B
    clear B
    go_wp2
    go_loopw [12] (fun i wr => ∃ q : Nat, q ≤ N ∧ i = .int .i64 q ∧ Below w5.heap.size w5 wr) (fun i _ => N - (intOf i).toNat)
    case atStart => exact ⟨0, Nat.zero_le _, rfl, Below.refl _ _⟩
    case round =>
      obtain ⟨q, hq, rfl, hB⟩ := hrel
      by_cases hlt : q < N
      · obtain ⟨q1, f1, e1, _, hc1⟩ := (x1'.below hB (by omega)).rd.int_at (k := q) (by rw [LX.out]; exact hlt)
        subst e1
        obtain ⟨q2, f2, e2, _, hc2, _⟩ := (o2.below hB (by omega)).rd.pair_at (k := q) (by rw [LB.out]; exact hlt)
        subst e2
        rw [PX.out q hlt] at hc1
        have i1 : (q : Int) < (xs.length : Int) := by rw [LX.out]; omega
        have i2 : (q : Int) < (bs.length : Int) := by rw [LB.out]; omega
        have ne : ((xs.length : Int) != (N : Int)) = false := by rw [LX.out]; simp
        have j1 : (q : Int) < (N : Int) := by omega
        go_wp2
        go_quiet (fail)
        go_wp2
        go_roundw
        case rel => exact ⟨q + 1, by omega, by go_num, below_drewN hB _⟩
        case measure => simp [intOf]; omega
      · obtain rfl : q = N := by omega
        go_wp2
        go_ret
        exact ⟨rfl, bel_trans BH.out hB⟩

set_option maxRecDepth 100000 in
theorem lifted (os : Os) (started : os.Started) (H : Type) (enc : TypeId × Value → H) :
    ReturnsInHanded {} Try.checked os 12 .any (Rows.fnSolveAmpsApplySpec.pre6 enc Try.prog Try.f12 Rows.fnSolveAmpsApplyRow.domain false) (Rows.fnSolveAmpsApplySpec.post enc Try.prog Try.f12 false true false false) := by
  refine returnsInHanded_of_change (C := Try.checked) own started (by kernel_rfl) Try.func12
    (ChangeSpec.witness6 (enc := enc) (C := Try.checked) false ⟨#[], #[.slice none 0 0], []⟩ 8 (by kernel_rfl) (by kernel_rfl) (by kernel_rfl) (by kernel_rfl)) ?_
  intro W base args ds gs before hval0 hW hcnd _
  have hval : ∀ (j : Nat) t v, Try.f12.params[j]? = some t → args[j]? = some v → Value.okWide Try.prog W .any base t v := hval0
  have hW' := hW
  obtain ⟨p, q, hA0, hV, rfl, hfz, hnd⟩ := hW
  have hA : DataW.TrodAll enc Try.prog W 0 (fun _ => true) true Try.f12.params.toList args.toList ds p := hA0
  rw [Try.params12] at hA hval
  obtain ⟨v0, vs0, d0, ds0, p0, q0, hargs, rfl, rfl, h0, r0⟩ := trodAll_cons hA
  obtain ⟨rfl, rfl, rfl⟩ := trodAll_nil r0
  obtain rfl : args = #[v0] := by cases args; simp_all
  obtain ⟨rfl, rfl⟩ := trodVars_none hV
  obtain ⟨a0, len0, cap0, rfl⟩ := okWide_slice Try.underlying22 (hval 0 22 v0 rfl rfl)
  have k0 := h0
  have lt0 : ∀ x ∈ p0, x.block < W.heap.size := by obtain ⟨m, hm⟩ := k0; exact DataW.trod_lt m _ _ _ hm
  obtain ⟨z0, n0, u0, f0, c0⟩ := in_ints Try.underlying22 Try.underlying5 (by kernel_rfl) h0
  have w0 := Rd.bytes u0 n0 f0
  clear hA0 hval0
  refine (walk W a0 len0 cap0 w0 c0).mono fun e W' ⟨he, bel⟩ => ?_
  subst he
  exact ⟨_, rfl, _, _, _, [], _, [], hW', trodAll_mk1 (shut_bool Try.underlying4 _), (trodAll_cons_mk (Below.trod laidOut (by kernel_rfl) (of_decide_eq_true (by kernel_rfl)) k0 bel lt0) trodAll_mk0), rfl, bel.frame _, fun h => by cases h⟩

theorem over : Rows.fnSolveAmpsApplyRow.holds Try.pinned (OpenSpec.ofChange Rows.fnSolveAmpsApplySpec) :=
  OpenClaim.holds_of_wide 12 Try.f12 rfl rfl rfl rfl rfl rfl rfl ⟨rfl, rfl, rfl, rfl, rfl⟩ rfl rfl rfl rfl rfl (by kernel_rfl) Try.func12 (by kernel_rfl)
    (of_decide_eq_true (by kernel_rfl)) (by unfold Func.isWrapper; first | (rw [if_pos (by decide +kernel)]; kernel_rfl) | (rw [if_neg (by decide +kernel)]; exact ⟨rfl, rfl⟩))
    (fun os started H enc _ => lifted os started H enc)

theorem proved : Rows.FnSolveAmpsApplySaid := over
#print axioms proved
end Go.Proofs.Ytpdekpeknnlfmaa.fnSolveAmpsApply
