/- A symmetric sky has a real transform. For every input; each argument reads afterwards as it read before. -/
import Derived.Test.YthlhojbbecioaaaFrame
import Derived.Test.YthlhojbbecioaaaSkyC
import Derived.Test.YthlhojbbecioaaaTrnC
import Derived.Test.YthlhojbbecioaaaDrawSky
import Derived.Test.YthlhojbbecioaaaSkyL
namespace Go.Proofs.Ythlhojbbecioaaa.fnTransformReal
open Go.ChangeShapes Go.WideShapes Go.ChangeAt Go.RowKit Go.Deep
set_option linter.unusedVariables false

set_option maxHeartbeats 4000000 in
set_option maxRecDepth 100000 in
theorem walk (w : World) (a0 : Option Addr) (len0 cap0 : Nat) (h0 : Bytes w a0 len0 w.heap.size) (k0 : len0 ≤ cap0) :
    Calls Try.prog 4 #[.slice a0 len0 cap0] w fun e w' => e = .returned (.bool true) ∧ Below w.heap.size w w' := by
  by_cases g0 : len0 ≤ 1048576
  case neg =>
    go_enter Try.func4, Try.ntmps4
    go_wp2
    go_ret
    exact ⟨rfl, Below.refl _ _⟩
  case pos =>
    have B := Below.refl w.heap.size w
    go_enter Try.func4, Try.ntmps4
    go_wp2_with fail
    refine (DrawSkyTransform_any _ _ _ _ h0 k0).mono ?_
    rintro e w1 ⟨A, c, zs, rfl, hl, hc, o, b1⟩
    have s1 := b1.size
    replace B := bel_trans B b1
    clear b1
    go_wp2_with fail
    refine (SkyTransform_any _ _ _ _ o.rd (by omega) rfl).mono ?_
    rintro e w2 ⟨Ag, cg, rfl, clg, g, b2⟩
    have s2 := b2.size
    replace B := bel_trans B b2
    replace o := o.below b2 (by omega)
    clear b2
    go_wp2_with fail
    refine (sSkyTransform_any _ _ _ _ o.rd (by omega) rfl).mono ?_
    rintro e w3 ⟨Av, cv, rfl, clv, v, b3⟩
    have s3 := b3.size
    replace B := bel_trans B b3
    replace o := o.below b3 (by omega)
    replace g := g.below b3 (by omega)
    clear b3
    have rl : (skyTrn zs).1.length ≤ 1048592 := skyTrn_len _
    cases hok : (skyTrn zs).2 with
    | false =>
      go_wp2_with fail
      refine (sameGrid_any _ _ _ _ _ _ _ g.rd v.rd rl rl rfl rfl).mono ?_
      rintro e w4 ⟨rfl, b4⟩
      have s4 := b4.size
      replace B := bel_trans B b4
      replace o := o.below b4 (by omega)
      replace g := g.below b4 (by omega)
      replace v := v.below b4 (by omega)
      clear b4
      go_wp2_with fail
      refine (sameGrid_any _ _ _ _ _ _ _ g.rd v.rd rl rl rfl rfl).mono ?_
      rintro e w5 ⟨rfl, b5⟩
      have s5 := b5.size
      replace B := bel_trans B b5
      replace o := o.below b5 (by omega)
      replace g := g.below b5 (by omega)
      replace v := v.below b5 (by omega)
      clear b5
      go_wp2
      go_ret
      exact ⟨rfl, B⟩
    | true =>
    go_wp2_with fail
    refine (sameGrid_any _ _ _ _ _ _ _ g.rd v.rd rl rl rfl rfl).mono ?_
    rintro e w4 ⟨rfl, b4⟩
    have s4 := b4.size
    replace B := bel_trans B b4
    replace o := o.below b4 (by omega)
    replace g := g.below b4 (by omega)
    replace v := v.below b4 (by omega)
    clear b4
    clear v
    obtain ⟨vs, hr⟩ := trn_ok hok
    have HR := Lib.hid hr
    have hz1 : zs.length ≤ 16 := Nat.le_of_eq (skyB_len vs)
    have hz2 : 16 ≤ zs.length := Nat.le_of_eq (skyB_len vs).symm
    have hq1 : (skyTrn zs).1.length ≤ 16 := by rw [hr]; simp
    have hq2 : 16 ≤ (skyTrn zs).1.length := by rw [hr]; simp
    clear hr
    have hmk := fun w => run_make_row' (P := Try.prog) 23 3 (.int .i64 0) 8 Try.underlying23 info_int rfl .i64 .i64 zs.length (by omega) (by omega) w
    go_wp2
    clear hmk
    go_loopw [9] (fun i wr => ∃ k : Nat, k ≤ 16 ∧ i = .int .i64 k ∧ SyW w4 wr zs k) (fun i _ => 16 - (intOf i).toNat)
    case atStart => exact ⟨0, Nat.zero_le _, rfl, SyW.start w4 zs⟩
    case round =>
      obtain ⟨k, hk, rfl, O, y1, y2, y3, y4, y5⟩ := hrel
      by_cases hlt : k < 16
      · have hoo := o.below y4 (by omega)
        have hop := opp_lt k
        obtain ⟨q1, of1, e1, _, hc1⟩ := hoo.rd.int_at (k := k) (by omega)
        subst e1
        obtain ⟨q1', of1', e1, _, hc2⟩ := hoo.rd.int_at (k := opp k) (by omega)
        injection e1 with e1
        injection e1 with e3 e4
        subst e3 e4
        obtain ⟨gq, off', e, hg1, hg2, hg3, hc', hf', hset⟩ := y3.cell_at (k := k) (by rw [ints_length, y1]; omega)
        injection e with e
        injection e with e1 e2
        subst e1 e2
        rw [ints_get (by rw [y1]; omega)] at hc'
        have hfin := SyW.step (w := w4) (by omega) y1 y2 hset y4 y5 hg1
        simp only [Nat.zero_add] at hc' hf' hfin
        have HF := Lib.hid hfin
        have Y5 := Lib.hid y5
        have b1 := skyB_bd vs k
        have b2 := skyB_bd vs (opp k)
        obtain ⟨b1, b1'⟩ := b1
        obtain ⟨b2, b2'⟩ := b2
        have i1 : (k : Int) < (zs.length : Int) := by omega
        have i2 : ((opp k : Nat) : Int) < (zs.length : Int) := by omega
        have HC := Lib.hid (call_cel' (cel_opp k hlt))
        clear hfin hset y1 y2 y3 y5
        generalize opp k = q at *
        go_wp2
        have e1 : (k : Int).tmod 4 = (k : Int) % 4 := Int.tmod_eq_emod_of_nonneg (by omega)
        have e2 : IntKind.i64.wrap (-((k : Int) % 4)) = -((k : Int) % 4) := IntWalk.i64_in _ (by omega)
        have e3 : IntKind.i64.wrap ((k : Int) / 4) = (k : Int) / 4 := IntWalk.i64_in _ (by omega)
        have e4 : IntKind.i64.wrap (-((k : Int) / 4)) = -((k : Int) / 4) := IntWalk.i64_in _ (by omega)
        have e5 : IntKind.i64.wrap (gi zs k + gi zs q) = gi zs k + gi zs q := IntWalk.i64_in _ (by clear e1 e2 e3 e4; omega)
        refine wp_region_still_tail 18 (by kernel_rfl) (by kernel_rfl) ?_
        simp only [List.take_succ_cons, List.take_zero, List.drop_succ_cons, List.drop_zero]
        repeat still_step
        still_call (HC.out _)
        repeat still_step
        refine wpStill_nil ?_
        clear e1 e2 e3 e4 e5
        go_wp2
        go_roundw
        case rel => exact ⟨k + 1, by omega, by go_num, HF.out.drew⟩
        case measure => simp [intOf]; omega
      · obtain rfl : k = 16 := by omega
        have e := SyW.done y1 y2 (skyB_len vs)
        subst e
        have Y5 := Lib.hid y5
        have s1' : w4.heap.size ≤ wr.heap.size := y4.size
        have oS : Ow wr 3 w4.heap.size wr.heap.size (some ⟨w4.heap.size, 0, none⟩) (ints (symL zs)) := by rw [y5]; exact y3
        replace B := bel_trans B y4
        replace g := g.below y4 (by omega)
        have HL := Lib.hid (skyB_len vs)
        clear y1 y2 y3 y4 y5 o
        go_wp2_with fail
        refine (SkyTransform_any _ _ _ _ oS.rd (by simp) (by rw [HL.out]; simp)).mono ?_
        rintro e wt ⟨At, ct, rfl, clt, ot, bt⟩
        have st := bt.size
        replace B := bel_trans B bt
        replace g := g.below bt (by omega)
        clear bt oS
        cases v3 : skyB (symL zs) with
        | false =>
          have t3 : (skyTrn (symL zs)).2 = false := by rw [trn_no v3]
          have l3 : (skyTrn (symL zs)).1.length ≤ 0 := by rw [trn_no v3]; simp
          have d3 : (((skyTrn (symL zs)).1.length : Int) == 0) = true := by rw [beq_iff_eq]; omega
          have n3 : ¬ ((0 : Int) < ((skyTrn (symL zs)).1.length : Int)) := by omega
          clear HL
          go_wp2
          refine wp_loop_rounds 1 ?_
          rw [rounds_succ]
          go_wp2
          go_ret
          exact ⟨rfl, B⟩
        | true =>
        have t3 : (skyTrn (symL zs)).2 = true := by rw [trn_mk v3]
        have HR2 := Lib.hid (trn_ok t3).2
        have l3 : (skyTrn (symL zs)).1.length ≤ 16 := by rw [HR2.out]; simp
        have l4 : 16 ≤ (skyTrn (symL zs)).1.length := by rw [HR2.out]; simp
        clear HL
        go_wp2
        go_loopw [12] (fun i wr => ∃ k : Nat, k ≤ 16 ∧ i = .int .i64 k ∧ Below wt.heap.size wt wr) (fun i _ => 16 - (intOf i).toNat)
        case atStart => exact ⟨0, Nat.zero_le _, rfl, Below.refl _ _⟩
        case round =>
          obtain ⟨k, hk, rfl, hb⟩ := hrel
          have hog := g.below hb (by omega)
          have hot := ot.below hb (by omega)
          by_cases hlt : k < 16
          · obtain ⟨q2, of2, e2, hq3, hc2, hc3⟩ := hog.rd.pair_at (k := k) (by omega)
            subst e2
            obtain ⟨q4, of4, e2, hq5, hc4, hc5⟩ := hot.rd.pair_at (k := k) (by omega)
            subst e2
            rw [HR.out, g1_trn _ hlt] at hc2
            rw [HR.out, g2_trn _ hlt] at hc3
            rw [HR2.out, g1_trn _ hlt, tre_sym zs hlt] at hc4
            rw [HR2.out, g2_trn _ hlt, tim_sym zs hlt] at hc5
            have i2 : (k : Int) < ((skyTrn zs).1.length : Int) := by omega
            have i3 : (k : Int) < ((skyTrn (symL zs)).1.length : Int) := by omega
            obtain ⟨hT, hT'⟩ := tre_bd vs k (Nat.le_refl 16)
            clear hc3 hog hot
            generalize tre zs k 16 = X at *
            have heq := eqInGauss (2 * X) 0 (2 * X) 0
            rw [decide_eq_true ⟨rfl, rfl⟩] at heq
            have hgd := guardGauss .neq (.tmp 90) (.tmp 97) #[.int .i64 (2 * X), .int .i64 0] #[.int .i64 (2 * X), .int .i64 0]
            have KC : Hid (∀ w' : World, Below wr.heap.size wr w' → w'.cell? ⟨q2, of2 + k * 2, none⟩ = some (.int .i64 X) ∧ w'.cell? ⟨q4, of4 + k * 2, none⟩ = some (.int .i64 (2 * X)) ∧ w'.cell? ⟨q4, of4 + k * 2 + 1, none⟩ = some (.int .i64 0)) := Lib.hid fun w' h => ⟨bel_cell h hq3 hc2, bel_cell h hq5 hc4, bel_cell h hq5 hc5⟩
            have B0 := Lib.hid ((Below.refl wr.heap.size wr).drew)
            have HB := Lib.hid hb
            clear hb hc2 hc4 hc5
            go_wp2
            have e1 : IntKind.i64.wrap (2 * X) = 2 * X := IntWalk.i64_in _ (by omega)
            go_region_held3 (fun w' => w'.cell? ⟨q2, of2 + k * 2, none⟩ = some (.int .i64 X) ∧ w'.cell? ⟨q4, of4 + k * 2, none⟩ = some (.int .i64 (2 * X)) ∧ w'.cell? ⟨q4, of4 + k * 2 + 1, none⟩ = some (.int .i64 0)) (first | exact KC.out _ B1 | exact KC.out _ B0.out | go_keep) (first | (go_at_call 20; (with_reducible refine (gauss_any _ _ _).mono ?_); rintro e wn ⟨rfl, b1⟩; have B1 := bel_trans B0.out b1; clear b1))
            clear e1 heq hgd
            go_wp2
            go_roundw
            case rel => exact ⟨k + 1, by omega, by go_num, HB.out.trans (B1.mono HB.out.size)⟩
            case measure => simp [intOf]; omega
          · obtain rfl : k = 16 := by omega
            go_wp2
            go_ret
            exact ⟨rfl, bel_trans B hb⟩

set_option maxRecDepth 100000 in
theorem lifted (os : Os) (started : os.Started) (H : Type) (enc : TypeId × Value → H) :
    ReturnsInHanded {} Try.checked os 4 .any (Rows.fnTransformRealSpec.pre6 enc Try.prog Try.f4 Rows.fnTransformRealRow.domain false) (Rows.fnTransformRealSpec.post enc Try.prog Try.f4 false true false false) := by
  refine returnsInHanded_of_change (C := Try.checked) own started (by kernel_rfl) Try.func4
    (ChangeSpec.witness6 (enc := enc) (C := Try.checked) false ⟨#[], #[.slice none 0 0], []⟩ 8 (by kernel_rfl) (by kernel_rfl) (by kernel_rfl) (by kernel_rfl)) ?_
  intro W base args ds gs before hval0 hW hcnd _
  have hval : ∀ (j : Nat) t v, Try.f4.params[j]? = some t → args[j]? = some v → Value.okWide Try.prog W .any base t v := hval0
  have hW' := hW
  obtain ⟨p, q, hA0, hV, rfl, hfz, hnd⟩ := hW
  have hA : DataW.TrodAll enc Try.prog W 0 (fun _ => true) true Try.f4.params.toList args.toList ds p := hA0
  rw [Try.params4] at hA hval
  obtain ⟨v0, vs0, d0, ds0, p0, q0, hargs, rfl, rfl, h0, r0⟩ := trodAll_cons hA
  obtain ⟨rfl, rfl, rfl⟩ := trodAll_nil r0
  obtain rfl : args = #[v0] := by cases args; simp_all
  obtain ⟨rfl, rfl⟩ := trodVars_none hV
  obtain ⟨a0, len0, cap0, rfl⟩ := okWide_slice Try.underlying22 (hval 0 22 v0 rfl rfl)
  have k0 := h0
  have lt0 : ∀ x ∈ p0, x.block < W.heap.size := by obtain ⟨m, hm⟩ := k0; exact DataW.trod_lt m _ _ _ hm
  obtain ⟨z0, n0, u0, f0, c0⟩ := in_ints Try.underlying22 Try.underlying5 (by kernel_rfl) h0
  have w0 := Rd.bytes u0 n0 f0
  clear hA0 hval0
  refine (walk W a0 len0 cap0 w0 c0).mono fun e W' ⟨he, bel⟩ => ?_
  subst he
  exact ⟨_, rfl, _, _, _, [], _, [], hW', trodAll_mk1 (shut_bool Try.underlying4 _), (trodAll_cons_mk (Below.trod laidOut (by kernel_rfl) (of_decide_eq_true (by kernel_rfl)) k0 bel lt0) trodAll_mk0), rfl, bel.frame _, fun h => by cases h⟩

theorem over : Rows.fnTransformRealRow.holds Try.pinned (OpenSpec.ofChange Rows.fnTransformRealSpec) :=
  OpenClaim.holds_of_wide 4 Try.f4 rfl rfl rfl rfl rfl rfl rfl ⟨rfl, rfl, rfl, rfl, rfl⟩ rfl rfl rfl rfl rfl (by kernel_rfl) Try.func4 (by kernel_rfl)
    (of_decide_eq_true (by kernel_rfl)) (by unfold Func.isWrapper; first | (rw [if_pos (by decide +kernel)]; kernel_rfl) | (rw [if_neg (by decide +kernel)]; exact ⟨rfl, rfl⟩))
    (fun os started H enc _ => lifted os started H enc)

theorem proved : Rows.FnTransformRealSaid := over
#print axioms proved
end Go.Proofs.Ythlhojbbecioaaa.fnTransformReal
