/- The powers of a sky and of its transform are the same. For every input; each argument reads afterwards as it read before. -/
import Derived.Test.YthlhojbbecioaaaFrame
import Derived.Test.YthlhojbbecioaaaSkyC
import Derived.Test.YthlhojbbecioaaaTrnC
import Derived.Test.YthlhojbbecioaaaDrawSky
import Derived.Test.YthlhojbbecioaaaSkyL
namespace Go.Proofs.Ythlhojbbecioaaa.fnTransformPower
open Go.ChangeShapes Go.WideShapes Go.ChangeAt Go.RowKit Go.Deep
set_option linter.unusedVariables false

set_option maxHeartbeats 4000000 in
set_option maxRecDepth 100000 in
theorem walk (w : World) (a0 : Option Addr) (len0 cap0 : Nat) (h0 : Bytes w a0 len0 w.heap.size) (k0 : len0 ≤ cap0) :
    Calls Try.prog 3 #[.slice a0 len0 cap0] w fun e w' => e = .returned (.bool true) ∧ Below w.heap.size w w' := by
  by_cases g0 : len0 ≤ 1048576
  case neg =>
    go_enter Try.func3, Try.ntmps3
    go_wp2
    go_ret
    exact ⟨rfl, Below.refl _ _⟩
  case pos =>
    have B := Below.refl w.heap.size w
    go_enter Try.func3, Try.ntmps3
    go_wp2_with fail
    refine (DrawSkyTransform_any _ _ _ _ h0 k0).mono ?_
    rintro e w1 ⟨A, c, zs, rfl, hl, hc, o, b1⟩
    have s1 := b1.size
    replace B := bel_trans B b1
    clear b1
    go_wp2_with fail
    refine (SkyTransform_any _ _ _ _ o.rd (by omega) rfl).mono ?_
    rintro e w2 ⟨Ag, cg, rfl, clg, g, b2⟩
    have s2 := b2.size
    replace B := bel_trans B b2
    replace o := o.below b2 (by omega)
    clear b2
    go_wp2_with fail
    refine (sSkyTransform_any _ _ _ _ o.rd (by omega) rfl).mono ?_
    rintro e w3 ⟨Av, cv, rfl, clv, v, b3⟩
    have s3 := b3.size
    replace B := bel_trans B b3
    replace o := o.below b3 (by omega)
    replace g := g.below b3 (by omega)
    clear b3
    have rl : (skyTrn zs).1.length ≤ 1048592 := skyTrn_len _
    cases hok : (skyTrn zs).2 with
    | false =>
      go_wp2_with fail
      refine (sameGrid_any _ _ _ _ _ _ _ g.rd v.rd rl rl rfl rfl).mono ?_
      rintro e w4 ⟨rfl, b4⟩
      have s4 := b4.size
      replace B := bel_trans B b4
      replace o := o.below b4 (by omega)
      replace g := g.below b4 (by omega)
      replace v := v.below b4 (by omega)
      clear b4
      go_wp2_with fail
      refine (sameGrid_any _ _ _ _ _ _ _ g.rd v.rd rl rl rfl rfl).mono ?_
      rintro e w5 ⟨rfl, b5⟩
      have s5 := b5.size
      replace B := bel_trans B b5
      replace o := o.below b5 (by omega)
      replace g := g.below b5 (by omega)
      replace v := v.below b5 (by omega)
      clear b5
      go_wp2
      go_ret
      exact ⟨rfl, B⟩
    | true =>
    go_wp2_with fail
    refine (sameGrid_any _ _ _ _ _ _ _ g.rd v.rd rl rl rfl rfl).mono ?_
    rintro e w4 ⟨rfl, b4⟩
    have s4 := b4.size
    replace B := bel_trans B b4
    replace o := o.below b4 (by omega)
    replace g := g.below b4 (by omega)
    replace v := v.below b4 (by omega)
    clear b4
    clear v
    obtain ⟨vs, hr⟩ := trn_ok hok
    have HR := Lib.hid hr
    have hz1 : zs.length ≤ 16 := Nat.le_of_eq (skyB_len vs)
    have hz2 : 16 ≤ zs.length := Nat.le_of_eq (skyB_len vs).symm
    have hq1 : (skyTrn zs).1.length ≤ 16 := by rw [hr]; simp
    have hq2 : 16 ≤ (skyTrn zs).1.length := by rw [hr]; simp
    clear hr
    go_wp2
    go_loopw [8, 9, 10] (fun x y i wr => ∃ k : Nat, k ≤ 16 ∧ i = .int .i64 k ∧ x = .int .i64 (sm (fun t => tre zs t 16 * tre zs t 16 + tim zs t 16 * tim zs t 16) k) ∧ y = .int .i64 (sm (fun j => gi zs j * gi zs j) k) ∧ Below w4.heap.size w4 wr) (fun _ _ i _ => 16 - (intOf i).toNat)
    case atStart => exact ⟨0, Nat.zero_le _, rfl, rfl, rfl, Below.refl _ _⟩
    case round =>
      obtain ⟨k, hk, rfl, rfl, rfl, hb⟩ := hrel
      have hog := g.below hb (by omega)
      have hoo := o.below hb (by omega)
      obtain ⟨p1, p2⟩ := sm_bd (f := fun t => tre zs t 16 * tre zs t 16 + tim zs t 16 * tim zs t 16) (B := 10000000000000) (n := k) (fun j _ => by have := power_bd vs j; show _ ≤ tre zs j 16 * tre zs j 16 + tim zs j 16 * tim zs j 16 ∧ tre zs j 16 * tre zs j 16 + tim zs j 16 * tim zs j 16 ≤ _; omega)
      obtain ⟨p3, p4⟩ := sm_bd (f := fun j => gi zs j * gi zs j) (B := 10000000000) (n := k) (fun j _ => mul_bd (B := 100000) (C := 100000) (skyB_bd vs j) (skyB_bd vs j))
      by_cases hlt : k < 16
      · obtain ⟨q1, of1, e1, _, hc1⟩ := hoo.rd.int_at (k := k) (by omega)
        subst e1
        obtain ⟨q2, of2, e2, _, hc2, hc3⟩ := hog.rd.pair_at (k := k) (by omega)
        subst e2
        rw [HR.out, g1_trn _ hlt] at hc2
        rw [HR.out, g2_trn _ hlt] at hc3
        have i1 : (k : Int) < (zs.length : Int) := by omega
        have i2 : (k : Int) < ((skyTrn zs).1.length : Int) := by omega
        have nb := power_bd vs k
        obtain ⟨n1, n2⟩ := nb
        obtain ⟨p5, p6⟩ := mul_bd (skyB_bd vs k) (skyB_bd vs k)
        have hT := tre_bd vs k (Nat.le_refl 16)
        have hI := tim_bd vs k (Nat.le_refl 16)
        have HX := Lib.hid (sm_succ (fun t => tre zs t 16 * tre zs t 16 + tim zs t 16 * tim zs t 16) k)
        have HY := Lib.hid (sm_succ (fun j => gi zs j * gi zs j) k)
        generalize sm (fun t => tre zs t 16 * tre zs t 16 + tim zs t 16 * tim zs t 16) k = X at *
        generalize sm (fun j => gi zs j * gi zs j) k = Y at *
        go_wp2_with fail
        refine (GaussNorm_any _ _ _ (by omega) (by omega)).mono ?_
        rintro e wn ⟨rfl, bn⟩
        have sn := bn.size
        replace hb := hb.trans (bn.mono hb.size)
        replace hc1 := bel_cell bn (World.block_lt_of_cell? _ _ hc1) hc1
        clear bn hc2 hc3
        generalize hN : tre zs k 16 * tre zs k 16 + tim zs k 16 * tim zs k 16 = N at *
        have HN := Lib.hid hN
        clear hN
        generalize hG : gi zs k * gi zs k = G at *
        have e2 : IntKind.i64.wrap G = G := IntWalk.i64_in _ (by omega)
        have e3 : IntKind.i64.wrap (Y + G) = Y + G := IntWalk.i64_in _ (by clear e2; omega)
        go_wp2
        go_quiet (fail)
        have HG := Lib.hid hG
        clear e2 e3 hG
        go_wp2
        go_roundw
        case rel => exact ⟨k + 1, by omega, by go_num, by first | rw [HX.out] | rw [HX.out, HN.out], by first | rw [HY.out] | rw [HY.out, HG.out], below_drewN hb _⟩
        case measure => simp [intOf]; omega
      · obtain rfl : k = 16 := by omega
        have hfin : (sm (fun t => tre zs t 16 * tre zs t 16 + tim zs t 16 * tim zs t 16) 16 == sm (fun j => gi zs j * gi zs j) 16 * 4 * 4) = true := by
          rw [power zs, beq_iff_eq]
          omega
        generalize sm (fun t => tre zs t 16 * tre zs t 16 + tim zs t 16 * tim zs t 16) 16 = X at *
        generalize sm (fun j => gi zs j * gi zs j) 16 = Y at *
        go_wp2
        go_ret
        exact ⟨rfl, bel_trans B hb⟩

set_option maxRecDepth 100000 in
theorem lifted (os : Os) (started : os.Started) (H : Type) (enc : TypeId × Value → H) :
    ReturnsInHanded {} Try.checked os 3 .any (Rows.fnTransformPowerSpec.pre6 enc Try.prog Try.f3 Rows.fnTransformPowerRow.domain false) (Rows.fnTransformPowerSpec.post enc Try.prog Try.f3 false true false false) := by
  refine returnsInHanded_of_change (C := Try.checked) own started (by kernel_rfl) Try.func3
    (ChangeSpec.witness6 (enc := enc) (C := Try.checked) false ⟨#[], #[.slice none 0 0], []⟩ 8 (by kernel_rfl) (by kernel_rfl) (by kernel_rfl) (by kernel_rfl)) ?_
  intro W base args ds gs before hval0 hW hcnd _
  have hval : ∀ (j : Nat) t v, Try.f3.params[j]? = some t → args[j]? = some v → Value.okWide Try.prog W .any base t v := hval0
  have hW' := hW
  obtain ⟨p, q, hA0, hV, rfl, hfz, hnd⟩ := hW
  have hA : DataW.TrodAll enc Try.prog W 0 (fun _ => true) true Try.f3.params.toList args.toList ds p := hA0
  rw [Try.params3] at hA hval
  obtain ⟨v0, vs0, d0, ds0, p0, q0, hargs, rfl, rfl, h0, r0⟩ := trodAll_cons hA
  obtain ⟨rfl, rfl, rfl⟩ := trodAll_nil r0
  obtain rfl : args = #[v0] := by cases args; simp_all
  obtain ⟨rfl, rfl⟩ := trodVars_none hV
  obtain ⟨a0, len0, cap0, rfl⟩ := okWide_slice Try.underlying22 (hval 0 22 v0 rfl rfl)
  have k0 := h0
  have lt0 : ∀ x ∈ p0, x.block < W.heap.size := by obtain ⟨m, hm⟩ := k0; exact DataW.trod_lt m _ _ _ hm
  obtain ⟨z0, n0, u0, f0, c0⟩ := in_ints Try.underlying22 Try.underlying5 (by kernel_rfl) h0
  have w0 := Rd.bytes u0 n0 f0
  clear hA0 hval0
  refine (walk W a0 len0 cap0 w0 c0).mono fun e W' ⟨he, bel⟩ => ?_
  subst he
  exact ⟨_, rfl, _, _, _, [], _, [], hW', trodAll_mk1 (shut_bool Try.underlying4 _), (trodAll_cons_mk (Below.trod laidOut (by kernel_rfl) (of_decide_eq_true (by kernel_rfl)) k0 bel lt0) trodAll_mk0), rfl, bel.frame _, fun h => by cases h⟩

theorem over : Rows.fnTransformPowerRow.holds Try.pinned (OpenSpec.ofChange Rows.fnTransformPowerSpec) :=
  OpenClaim.holds_of_wide 3 Try.f3 rfl rfl rfl rfl rfl rfl rfl ⟨rfl, rfl, rfl, rfl, rfl⟩ rfl rfl rfl rfl rfl (by kernel_rfl) Try.func3 (by kernel_rfl)
    (of_decide_eq_true (by kernel_rfl)) (by unfold Func.isWrapper; first | (rw [if_pos (by decide +kernel)]; kernel_rfl) | (rw [if_neg (by decide +kernel)]; exact ⟨rfl, rfl⟩))
    (fun os started H enc _ => lifted os started H enc)

theorem proved : Rows.FnTransformPowerSaid := over
#print axioms proved
end Go.Proofs.Ythlhojbbecioaaa.fnTransformPower
