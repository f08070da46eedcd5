/- Each cell of a sky is moved by a shift. For every input; each argument reads afterwards as it read before. -/
import Derived.Test.YtfigjmlipffdpaaFrame
import Derived.Test.YtfigjmlipffdpaaSkyC
import Derived.Test.YtfigjmlipffdpaaDrawSky
import Derived.Test.YtfigjmlipffdpaaSkyL
namespace Go.Proofs.Ytfigjmlipffdpaa.fnSkyShiftCell
open Go.ChangeShapes Go.WideShapes Go.ChangeAt Go.RowKit Go.Deep
set_option linter.unusedVariables false

set_option maxHeartbeats 4000000 in
set_option maxRecDepth 100000 in
theorem walk (w : World) (a0 : Option Addr) (len0 cap0 : Nat) (h0 : Bytes w a0 len0 w.heap.size) (k0 : len0 ≤ cap0) :
    Calls Try.prog 13 #[.slice a0 len0 cap0] w fun e w' => e = .returned (.bool true) ∧ Below w.heap.size w w' := by
  by_cases g0 : len0 ≤ 1048576
  case neg =>
    go_enter Try.func13, Try.ntmps13
    go_wp2
    go_ret
    exact ⟨rfl, Below.refl _ _⟩
  case pos =>
    have B := Below.refl w.heap.size w
    go_enter Try.func13, Try.ntmps13
    go_wp2_with fail
    refine (DrawSkyShift_any _ _ _ _ h0 k0).mono ?_
    rintro e w1 ⟨A, c, zs, x, y, rfl, hl, x0, x1, y0, y1, o, b1⟩
    have s1 := b1.size
    replace B := bel_trans B b1
    clear b1
    go_wp2_with fail
    refine (SkyShift_any _ _ _ _ _ _ o.rd (by omega) rfl).mono ?_
    rintro e w2 ⟨Ag, cg, rfl, clg, g, b2⟩
    have s2 := b2.size
    replace B := bel_trans B b2
    replace o := o.below b2 (by omega)
    clear b2
    go_wp2_with fail
    refine (sSkyShift_any _ _ _ _ _ _ o.rd (by omega) rfl).mono ?_
    rintro e w3 ⟨Av, cv, rfl, clv, v, b3⟩
    have s3 := b3.size
    replace B := bel_trans B b3
    replace o := o.below b3 (by omega)
    replace g := g.below b3 (by omega)
    clear b3
    have rl : (skyShift zs x y).1.length ≤ 1048592 := skyShift_len _ _ _
    cases hok : (skyShift zs x y).2 with
    | false =>
      go_wp2_with fail
      refine (sameInts_any _ _ _ _ _ _ _ g.rd v.rd rl rl rfl rfl).mono ?_
      rintro e w4 ⟨rfl, b4⟩
      have s4 := b4.size
      replace B := bel_trans B b4
      replace o := o.below b4 (by omega)
      replace g := g.below b4 (by omega)
      replace v := v.below b4 (by omega)
      clear b4
      go_wp2_with fail
      refine (sameInts_any _ _ _ _ _ _ _ g.rd v.rd rl rl rfl rfl).mono ?_
      rintro e w5 ⟨rfl, b5⟩
      have s5 := b5.size
      replace B := bel_trans B b5
      replace o := o.below b5 (by omega)
      replace g := g.below b5 (by omega)
      replace v := v.below b5 (by omega)
      clear b5
      go_wp2
      go_ret
      exact ⟨rfl, B⟩
    | true =>
    go_wp2_with fail
    refine (sameInts_any _ _ _ _ _ _ _ g.rd v.rd rl rl rfl rfl).mono ?_
    rintro e w4 ⟨rfl, b4⟩
    have s4 := b4.size
    replace B := bel_trans B b4
    replace o := o.below b4 (by omega)
    replace g := g.below b4 (by omega)
    replace v := v.below b4 (by omega)
    clear b4
    clear v
    obtain ⟨vs, vx, vy, hr⟩ := shift_ok hok
    obtain ⟨x2, x3⟩ := inB_true vx
    obtain ⟨y2, y3⟩ := inB_true vy
    have HR := Lib.hid hr
    clear hr
    have hz := Lib.hid (skyB_len vs)
    have hz1 : zs.length ≤ 16 := Nat.le_of_eq hz.out
    have hz2 : 16 ≤ zs.length := Nat.le_of_eq hz.out.symm
    have hq := Lib.hid (shf_len hok)
    go_wp2
    go_loopw [10] (fun i wr => ∃ k : Nat, k ≤ 16 ∧ i = .int .i64 k ∧ Below w4.heap.size w4 wr) (fun i _ => 16 - (intOf i).toNat)
    case atStart => exact ⟨0, Nat.zero_le _, rfl, Below.refl _ _⟩
    case round =>
      obtain ⟨k, hk, rfl, hb⟩ := hrel
      have hog := g.below hb (by omega)
      have hoo := o.below hb (by omega)
      by_cases hlt : k < 16
      · obtain ⟨q1, of1, e1, _, hc1⟩ := hoo.rd.int_at (k := k) (by omega)
        subst e1
        have hpl := plus_lt k (pl x y)
        obtain ⟨q2, of2, e2, _, hc2⟩ := hog.rd.int_at (k := plus k (pl x y)) (by rw [hq.out]; exact hpl)
        subst e2
        rw [HR.out, shf_at (pl_lt vx vy) hlt] at hc2
        have hcel := Lib.hid (quiet_cel (cel_pl vx vy k hlt))
        generalize plus k (pl x y) = q at *
        have i1 : (k : Int) < (zs.length : Int) := by omega
        have i2 : (q : Int) < ((skyShift zs x y).1.length : Int) := by rw [hq.out]; omega
        have e1 : (k : Int).tmod 4 = (k : Int) % 4 := Int.tmod_eq_emod_of_nonneg (by omega)
        have e2 : IntKind.i64.wrap ((k : Int) % 4 + x) = (k : Int) % 4 + x := IntWalk.i64_in _ (by omega)
        have e3 : IntKind.i64.wrap ((k : Int) / 4) = (k : Int) / 4 := IntWalk.i64_in _ (by omega)
        have e4 : IntKind.i64.wrap ((k : Int) / 4 + y) = (k : Int) / 4 + y := IntWalk.i64_in _ (by omega)
        go_wp2
        go_quiet ((go_at_call 40; exact hcel.out _))
        clear e1 e2 e3 e4
        go_wp2
        go_roundw
        case rel => exact ⟨k + 1, by omega, by go_num, below_drewN hb _⟩
        case measure => simp [intOf]; omega
      · obtain rfl : k = 16 := by omega
        have hq1 : (((skyShift zs x y).1.length : Int) == (zs.length : Int)) = true := by rw [hq.out, hz.out]; rfl
        go_wp2
        go_ret
        exact ⟨rfl, bel_trans B hb⟩

set_option maxRecDepth 100000 in
theorem lifted (os : Os) (started : os.Started) (H : Type) (enc : TypeId × Value → H) :
    ReturnsInHanded {} Try.checked os 13 .any (Rows.fnSkyShiftCellSpec.pre6 enc Try.prog Try.f13 Rows.fnSkyShiftCellRow.domain false) (Rows.fnSkyShiftCellSpec.post enc Try.prog Try.f13 false true false false) := by
  refine returnsInHanded_of_change (C := Try.checked) own started (by kernel_rfl) Try.func13
    (ChangeSpec.witness6 (enc := enc) (C := Try.checked) false ⟨#[], #[.slice none 0 0], []⟩ 8 (by kernel_rfl) (by kernel_rfl) (by kernel_rfl) (by kernel_rfl)) ?_
  intro W base args ds gs before hval0 hW hcnd _
  have hval : ∀ (j : Nat) t v, Try.f13.params[j]? = some t → args[j]? = some v → Value.okWide Try.prog W .any base t v := hval0
  have hW' := hW
  obtain ⟨p, q, hA0, hV, rfl, hfz, hnd⟩ := hW
  have hA : DataW.TrodAll enc Try.prog W 0 (fun _ => true) true Try.f13.params.toList args.toList ds p := hA0
  rw [Try.params13] at hA hval
  obtain ⟨v0, vs0, d0, ds0, p0, q0, hargs, rfl, rfl, h0, r0⟩ := trodAll_cons hA
  obtain ⟨rfl, rfl, rfl⟩ := trodAll_nil r0
  obtain rfl : args = #[v0] := by cases args; simp_all
  obtain ⟨rfl, rfl⟩ := trodVars_none hV
  obtain ⟨a0, len0, cap0, rfl⟩ := okWide_slice Try.underlying28 (hval 0 28 v0 rfl rfl)
  have k0 := h0
  have lt0 : ∀ x ∈ p0, x.block < W.heap.size := by obtain ⟨m, hm⟩ := k0; exact DataW.trod_lt m _ _ _ hm
  obtain ⟨z0, n0, u0, f0, c0⟩ := in_ints Try.underlying28 Try.underlying5 (by kernel_rfl) h0
  have w0 := Rd.bytes u0 n0 f0
  clear hA0 hval0
  refine (walk W a0 len0 cap0 w0 c0).mono fun e W' ⟨he, bel⟩ => ?_
  subst he
  exact ⟨_, rfl, _, _, _, [], _, [], hW', trodAll_mk1 (shut_bool Try.underlying4 _), (trodAll_cons_mk (Below.trod laidOut (by kernel_rfl) (of_decide_eq_true (by kernel_rfl)) k0 bel lt0) trodAll_mk0), rfl, bel.frame _, fun h => by cases h⟩

theorem over : Rows.fnSkyShiftCellRow.holds Try.pinned (OpenSpec.ofChange Rows.fnSkyShiftCellSpec) :=
  OpenClaim.holds_of_wide 13 Try.f13 rfl rfl rfl rfl rfl rfl rfl ⟨rfl, rfl, rfl, rfl, rfl⟩ rfl rfl rfl rfl rfl (by kernel_rfl) Try.func13 (by kernel_rfl)
    (of_decide_eq_true (by kernel_rfl)) (by unfold Func.isWrapper; first | (rw [if_pos (by decide +kernel)]; kernel_rfl) | (rw [if_neg (by decide +kernel)]; exact ⟨rfl, rfl⟩))
    (fun os started H enc _ => lifted os started H enc)

theorem proved : Rows.FnSkyShiftCellSaid := over
#print axioms proved
end Go.Proofs.Ytfigjmlipffdpaa.fnSkyShiftCell
