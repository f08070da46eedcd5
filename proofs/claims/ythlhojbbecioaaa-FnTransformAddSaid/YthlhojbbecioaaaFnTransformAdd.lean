/- Transforms are added. For every input; each argument reads afterwards as it read before. -/
import Derived.Test.YthlhojbbecioaaaFrame
import Derived.Test.YthlhojbbecioaaaSkyC
import Derived.Test.YthlhojbbecioaaaTrnC
import Derived.Test.YthlhojbbecioaaaDrawSky
import Derived.Test.YthlhojbbecioaaaSkyL
namespace Go.Proofs.Ythlhojbbecioaaa.fnTransformAdd
open Go.ChangeShapes Go.WideShapes Go.ChangeAt Go.RowKit Go.Deep
set_option linter.unusedVariables false

set_option maxHeartbeats 4000000 in
set_option maxRecDepth 100000 in
theorem walk (w : World) (a0 : Option Addr) (len0 cap0 : Nat) (h0 : Bytes w a0 len0 w.heap.size) (k0 : len0 ≤ cap0) :
    Calls Try.prog 5 #[.slice a0 len0 cap0] w fun e w' => e = .returned (.bool true) ∧ Below w.heap.size w w' := by
  by_cases g0 : len0 ≤ 1048576
  case neg =>
    go_enter Try.func5, Try.ntmps5
    go_wp2
    go_ret
    exact ⟨rfl, Below.refl _ _⟩
  case pos =>
    have B := Below.refl w.heap.size w
    go_enter Try.func5, Try.ntmps5
    go_wp2_with fail
    refine (DrawSkyAdd_any _ _ _ _ h0 k0).mono ?_
    rintro e w1 ⟨A, A2, c, c2, zs, ys, x, rfl, hl, hl2, x0, x1, o, o2, b1⟩
    have s1 := b1.size
    replace B := bel_trans B b1
    clear b1
    go_wp2_with fail
    refine (SkyAdd_any _ _ _ _ _ _ _ _ o.rd o2.rd (by omega) (by omega) rfl rfl).mono ?_
    rintro e w2 ⟨Ag, cg, rfl, clg, g, b2⟩
    have s2 := b2.size
    replace B := bel_trans B b2
    replace o := o.below b2 (by omega)
    replace o2 := o2.below b2 (by omega)
    clear b2
    go_wp2_with fail
    refine (sSkyAdd_any _ _ _ _ _ _ _ _ o.rd o2.rd (by omega) (by omega) rfl rfl).mono ?_
    rintro e w3 ⟨Av, cv, rfl, clv, v, b3⟩
    have s3 := b3.size
    replace B := bel_trans B b3
    replace o := o.below b3 (by omega)
    replace o2 := o2.below b3 (by omega)
    replace g := g.below b3 (by omega)
    clear b3
    have rl : (skyAdd zs ys x).1.length ≤ 1048592 := skyAdd_len _ _ _
    cases hok : (skyAdd zs ys x).2 with
    | false =>
      go_wp2_with fail
      refine (sameInts_any _ _ _ _ _ _ _ g.rd v.rd rl rl rfl rfl).mono ?_
      rintro e w4 ⟨rfl, b4⟩
      have s4 := b4.size
      replace B := bel_trans B b4
      replace o := o.below b4 (by omega)
      replace o2 := o2.below b4 (by omega)
      replace g := g.below b4 (by omega)
      replace v := v.below b4 (by omega)
      clear b4
      go_wp2_with fail
      refine (sameInts_any _ _ _ _ _ _ _ g.rd v.rd rl rl rfl rfl).mono ?_
      rintro e w5 ⟨rfl, b5⟩
      have s5 := b5.size
      replace B := bel_trans B b5
      replace o := o.below b5 (by omega)
      replace o2 := o2.below b5 (by omega)
      replace g := g.below b5 (by omega)
      replace v := v.below b5 (by omega)
      clear b5
      go_wp2
      go_ret
      exact ⟨rfl, B⟩
    | true =>
    go_wp2_with fail
    refine (sameInts_any _ _ _ _ _ _ _ g.rd v.rd rl rl rfl rfl).mono ?_
    rintro e w4 ⟨rfl, b4⟩
    have s4 := b4.size
    replace B := bel_trans B b4
    replace o := o.below b4 (by omega)
    replace o2 := o2.below b4 (by omega)
    replace g := g.below b4 (by omega)
    replace v := v.below b4 (by omega)
    clear b4
    clear v
    obtain ⟨va, vb, vt, vc, hr⟩ := add_ok hok
    have HR := Lib.hid hr
    clear hr
    obtain ⟨x2, x3⟩ := inB_true vt
    have t1 : (skyTrn zs).2 = true := by rw [trn_mk va]
    have t2 : (skyTrn ys).2 = true := by rw [trn_mk vb]
    have t3 : (skyTrn (skyAdd zs ys x).1).2 = true := by rw [HR.out, trn_mk vc]
    go_wp2_with fail
    refine (SkyTransform_any _ _ _ _ o.rd (by omega) rfl).mono ?_
    rintro e w5 ⟨Ap', cp', rfl, clp', p', b5⟩
    have s5 := b5.size
    replace B := bel_trans B b5
    replace o := o.below b5 (by omega)
    replace o2 := o2.below b5 (by omega)
    replace g := g.below b5 (by omega)
    clear b5
    go_wp2_with fail
    refine (SkyTransform_any _ _ _ _ o2.rd (by omega) rfl).mono ?_
    rintro e w6 ⟨Aq', cq', rfl, clq', q', b6⟩
    have s6 := b6.size
    replace B := bel_trans B b6
    replace o := o.below b6 (by omega)
    replace o2 := o2.below b6 (by omega)
    replace g := g.below b6 (by omega)
    replace p' := p'.below b6 (by omega)
    clear b6
    go_wp2_with fail
    refine (SkyTransform_any _ _ _ _ g.rd rl rfl).mono ?_
    rintro e w7 ⟨Ar', cr', rfl, clr', r', b7⟩
    have s7 := b7.size
    replace B := bel_trans B b7
    replace o := o.below b7 (by omega)
    replace o2 := o2.below b7 (by omega)
    replace g := g.below b7 (by omega)
    replace p' := p'.below b7 (by omega)
    replace q' := q'.below b7 (by omega)
    clear b7
    have HA := Lib.hid (trn_ok t1).2
    have HB := Lib.hid (trn_ok t2).2
    have HC := Lib.hid (show (skyTrn (skyAdd zs ys x).1).1 = trn (addT zs ys x) by rw [(trn_ok t3).2, HR.out])
    have la1 : (skyTrn zs).1.length ≤ 16 := by rw [HA.out]; simp
    have la2 : 16 ≤ (skyTrn zs).1.length := by rw [HA.out]; simp
    have lb1 : (skyTrn ys).1.length ≤ 16 := by rw [HB.out]; simp
    have lb2 : 16 ≤ (skyTrn ys).1.length := by rw [HB.out]; simp
    have lc1 : (skyTrn (skyAdd zs ys x).1).1.length ≤ 16 := by rw [HC.out]; simp
    have lc2 : 16 ≤ (skyTrn (skyAdd zs ys x).1).1.length := by rw [HC.out]; simp
    go_wp2
    go_loopw [16] (fun i wr => ∃ k : Nat, k ≤ 16 ∧ i = .int .i64 k ∧ Below w7.heap.size w7 wr) (fun i _ => 16 - (intOf i).toNat)
    case atStart => exact ⟨0, Nat.zero_le _, rfl, Below.refl _ _⟩
    case round =>
      obtain ⟨k, hk, rfl, hb⟩ := hrel
      have op := p'.below hb (by omega)
      have oq := q'.below hb (by omega)
      have or := r'.below hb (by omega)
      by_cases hlt : k < 16
      · obtain ⟨q1, o1, e2, hq1, hc1, hd1⟩ := op.rd.pair_at (k := k) (by omega)
        subst e2
        obtain ⟨q2, o2', e2, hq2, hc2, hd2⟩ := oq.rd.pair_at (k := k) (by omega)
        subst e2
        obtain ⟨q3, o3, e2, hq3, hc3, hd3⟩ := or.rd.pair_at (k := k) (by omega)
        subst e2
        rw [HA.out, g1_trn _ hlt] at hc1
        rw [HA.out, g2_trn _ hlt] at hd1
        rw [HB.out, g1_trn _ hlt] at hc2
        rw [HB.out, g2_trn _ hlt] at hd2
        rw [HC.out, g1_trn _ hlt, tre_addT x (skyB_len va)] at hc3
        rw [HC.out, g2_trn _ hlt, tim_addT x (skyB_len va)] at hd3
        have i1 : (k : Int) < ((skyTrn zs).1.length : Int) := by omega
        have i2 : (k : Int) < ((skyTrn ys).1.length : Int) := by omega
        have i3 : (k : Int) < ((skyTrn (skyAdd zs ys x).1).1.length : Int) := by omega
        have n1 : (((skyTrn zs).1.length : Int) != ((skyTrn (skyAdd zs ys x).1).1.length : Int)) = false := by simp; omega
        have n2 : (((skyTrn ys).1.length : Int) != ((skyTrn (skyAdd zs ys x).1).1.length : Int)) = false := by simp; omega
        obtain ⟨a1, a2⟩ := tre_bd va k (Nat.le_refl 16)
        obtain ⟨a3, a4⟩ := tim_bd va k (Nat.le_refl 16)
        obtain ⟨a5, a6⟩ := mul_bd (inB_true vt) (tre_bd vb k (Nat.le_refl 16))
        obtain ⟨a7, a8⟩ := mul_bd (inB_true vt) (tim_bd vb k (Nat.le_refl 16))
        clear op oq or
        generalize tre zs k 16 = X at *
        generalize tim zs k 16 = Y at *
        generalize tre ys k 16 = U at *
        generalize tim ys k 16 = V at *
        have heq := eqInGauss (X + x * U) (Y + x * V) (X + x * U) (Y + x * V)
        rw [decide_eq_true ⟨rfl, rfl⟩] at heq
        have hgd := guardGauss .neq (.tmp 98) (.tmp 125) #[.int .i64 (X + x * U), .int .i64 (Y + x * V)] #[.int .i64 (X + x * U), .int .i64 (Y + x * V)]
        have KC : Hid (∀ w' : World, Below wr.heap.size wr w' → w'.cell? ⟨q1, o1 + k * 2, none⟩ = some (.int .i64 X) ∧ w'.cell? ⟨q1, o1 + k * 2 + 1, none⟩ = some (.int .i64 Y) ∧ w'.cell? ⟨q2, o2' + k * 2, none⟩ = some (.int .i64 U) ∧ w'.cell? ⟨q2, o2' + k * 2 + 1, none⟩ = some (.int .i64 V) ∧ w'.cell? ⟨q3, o3 + k * 2, none⟩ = some (.int .i64 (X + x * U)) ∧ w'.cell? ⟨q3, o3 + k * 2 + 1, none⟩ = some (.int .i64 (Y + x * V))) := Lib.hid fun w' h => ⟨bel_cell h hq1 hc1, bel_cell h hq1 hd1, bel_cell h hq2 hc2, bel_cell h hq2 hd2, bel_cell h hq3 hc3, bel_cell h hq3 hd3⟩
        have B0 := Lib.hid ((Below.refl wr.heap.size wr).drew)
        have HBl := Lib.hid hb
        clear hb hc1 hc2 hc3 hd1 hd2 hd3
        go_wp2
        have e1 : IntKind.i64.wrap (x * U) = x * U := IntWalk.i64_in _ (by omega)
        have e2 : IntKind.i64.wrap (x * V) = x * V := IntWalk.i64_in _ (by clear e1; omega)
        have e3 : IntKind.i64.wrap (X + x * U) = X + x * U := IntWalk.i64_in _ (by clear e1 e2; omega)
        have e4 : IntKind.i64.wrap (Y + x * V) = Y + x * V := IntWalk.i64_in _ (by clear e1 e2 e3; omega)
        go_region_held3 (fun w' => w'.cell? ⟨q1, o1 + k * 2, none⟩ = some (.int .i64 X) ∧ w'.cell? ⟨q1, o1 + k * 2 + 1, none⟩ = some (.int .i64 Y) ∧ w'.cell? ⟨q2, o2' + k * 2, none⟩ = some (.int .i64 U) ∧ w'.cell? ⟨q2, o2' + k * 2 + 1, none⟩ = some (.int .i64 V) ∧ w'.cell? ⟨q3, o3 + k * 2, none⟩ = some (.int .i64 (X + x * U)) ∧ w'.cell? ⟨q3, o3 + k * 2 + 1, none⟩ = some (.int .i64 (Y + x * V))) (first | exact KC.out _ B1 | exact KC.out _ B0.out | go_keep) (first | (go_at_call 20; (with_reducible refine (gauss_any _ _ _).mono ?_); rintro e wn ⟨rfl, b1⟩; have B1 := bel_trans B0.out b1; clear b1))
        clear e1 e2 e3 e4 heq hgd n1 n2
        go_wp2
        go_roundw
        case rel => exact ⟨k + 1, by omega, by go_num, HBl.out.trans (B1.mono HBl.out.size)⟩
        case measure => simp [intOf]; omega
      · obtain rfl : k = 16 := by omega
        go_wp2
        go_ret
        exact ⟨rfl, bel_trans B hb⟩

set_option maxRecDepth 100000 in
theorem lifted (os : Os) (started : os.Started) (H : Type) (enc : TypeId × Value → H) :
    ReturnsInHanded {} Try.checked os 5 .any (Rows.fnTransformAddSpec.pre6 enc Try.prog Try.f5 Rows.fnTransformAddRow.domain false) (Rows.fnTransformAddSpec.post enc Try.prog Try.f5 false true false false) := by
  refine returnsInHanded_of_change (C := Try.checked) own started (by kernel_rfl) Try.func5
    (ChangeSpec.witness6 (enc := enc) (C := Try.checked) false ⟨#[], #[.slice none 0 0], []⟩ 8 (by kernel_rfl) (by kernel_rfl) (by kernel_rfl) (by kernel_rfl)) ?_
  intro W base args ds gs before hval0 hW hcnd _
  have hval : ∀ (j : Nat) t v, Try.f5.params[j]? = some t → args[j]? = some v → Value.okWide Try.prog W .any base t v := hval0
  have hW' := hW
  obtain ⟨p, q, hA0, hV, rfl, hfz, hnd⟩ := hW
  have hA : DataW.TrodAll enc Try.prog W 0 (fun _ => true) true Try.f5.params.toList args.toList ds p := hA0
  rw [Try.params5] at hA hval
  obtain ⟨v0, vs0, d0, ds0, p0, q0, hargs, rfl, rfl, h0, r0⟩ := trodAll_cons hA
  obtain ⟨rfl, rfl, rfl⟩ := trodAll_nil r0
  obtain rfl : args = #[v0] := by cases args; simp_all
  obtain ⟨rfl, rfl⟩ := trodVars_none hV
  obtain ⟨a0, len0, cap0, rfl⟩ := okWide_slice Try.underlying22 (hval 0 22 v0 rfl rfl)
  have k0 := h0
  have lt0 : ∀ x ∈ p0, x.block < W.heap.size := by obtain ⟨m, hm⟩ := k0; exact DataW.trod_lt m _ _ _ hm
  obtain ⟨z0, n0, u0, f0, c0⟩ := in_ints Try.underlying22 Try.underlying5 (by kernel_rfl) h0
  have w0 := Rd.bytes u0 n0 f0
  clear hA0 hval0
  refine (walk W a0 len0 cap0 w0 c0).mono fun e W' ⟨he, bel⟩ => ?_
  subst he
  exact ⟨_, rfl, _, _, _, [], _, [], hW', trodAll_mk1 (shut_bool Try.underlying4 _), (trodAll_cons_mk (Below.trod laidOut (by kernel_rfl) (of_decide_eq_true (by kernel_rfl)) k0 bel lt0) trodAll_mk0), rfl, bel.frame _, fun h => by cases h⟩

theorem over : Rows.fnTransformAddRow.holds Try.pinned (OpenSpec.ofChange Rows.fnTransformAddSpec) :=
  OpenClaim.holds_of_wide 5 Try.f5 rfl rfl rfl rfl rfl rfl rfl ⟨rfl, rfl, rfl, rfl, rfl⟩ rfl rfl rfl rfl rfl (by kernel_rfl) Try.func5 (by kernel_rfl)
    (of_decide_eq_true (by kernel_rfl)) (by unfold Func.isWrapper; first | (rw [if_pos (by decide +kernel)]; kernel_rfl) | (rw [if_neg (by decide +kernel)]; exact ⟨rfl, rfl⟩))
    (fun os started H enc _ => lifted os started H enc)

theorem proved : Rows.FnTransformAddSaid := over
#print axioms proved
end Go.Proofs.Ythlhojbbecioaaa.fnTransformAdd
