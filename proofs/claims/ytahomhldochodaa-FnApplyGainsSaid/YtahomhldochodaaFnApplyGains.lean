/- Gains are applied to each baseline. For every input; each argument reads afterwards as it read before. -/
import Derived.Test.YtahomhldochodaaFrame
import Derived.Test.YtahomhldochodaaApplyA
import Derived.Test.YtahomhldochodaaApplyS
import Derived.Test.YtahomhldochodaaDrawApply
import Derived.Test.YtahomhldochodaaApplyL
import Derived.Test.YtahomhldochodaaBasePair
namespace Go.Proofs.Ytahomhldochodaa.fnApplyGains
open Go.ChangeShapes Go.WideShapes Go.ChangeAt Go.RowKit Go.Deep
set_option linter.unusedVariables false

set_option maxHeartbeats 4000000 in
set_option maxRecDepth 100000 in
theorem walk (w : World) (a0 : Option Addr) (len0 cap0 : Nat) (h0 : Bytes w a0 len0 w.heap.size) (k0 : len0 ≤ cap0) (a1 : Option Addr) (len1 cap1 : Nat) (h1 : Bytes w a1 len1 w.heap.size) (k1 : len1 ≤ cap1) :
    Calls Try.prog 12 #[.slice a0 len0 cap0, .slice a1 len1 cap1] w fun e w' => e = .returned (.bool true) ∧ Below w.heap.size w w' := by
  by_cases gl0 : len0 ≤ 1048576
  case neg =>
    go_enter Try.func12, Try.ntmps12
    go_wp2
    go_ret
    exact ⟨rfl, Below.refl _ _⟩
  by_cases gl1 : len1 ≤ 1048576
  case neg =>
    go_enter Try.func12, Try.ntmps12
    go_wp2
    go_ret
    exact ⟨rfl, Below.refl _ _⟩
  case pos =>
    have B := Below.refl w.heap.size w
    go_enter Try.func12, Try.ntmps12
    go_wp2_with fail
    refine (DrawGainApply_any _ _ _ _ h0 k0).mono ?_
    rintro e w1 ⟨N, A, A2, c, c2, as_, bs, rfl, n2, n6, la, lb, o, o2, b1⟩
    have s1 := b1.size
    replace B := bel_trans B b1
    clear b1
    go_wp2_with fail
    refine (GainApply_any _ _ _ _ _ _ _ _ o.rd o2.rd (by omega) (by omega) rfl rfl).mono ?_
    rintro e w2 ⟨Ag, cg, rfl, clg, g, b2⟩
    have s2 := b2.size
    replace B := bel_trans B b2
    replace o := o.below b2 (by omega)
    replace o2 := o2.below b2 (by omega)
    clear b2
    go_wp2_with fail
    refine (sGainApply_any _ _ _ _ _ _ _ _ o.rd o2.rd (by omega) (by omega) rfl rfl).mono ?_
    rintro e w3 ⟨Av, cv, rfl, clv, v, b3⟩
    have s3 := b3.size
    replace B := bel_trans B b3
    replace o := o.below b3 (by omega)
    replace o2 := o2.below b3 (by omega)
    replace g := g.below b3 (by omega)
    clear b3
    have rl : (gainApply (N : Int) as_ bs).1.length ≤ 1048592 := gainApply_len _ _ _
    cases hok : (gainApply (N : Int) as_ bs).2 with
    | false =>
      go_wp2_with fail
      refine (sameVis_any _ _ _ _ _ _ _ g.rd v.rd rl rl rfl rfl).mono ?_
      rintro e w4 ⟨rfl, b4⟩
      have s4 := b4.size
      replace B := bel_trans B b4
      replace o := o.below b4 (by omega)
      replace o2 := o2.below b4 (by omega)
      replace g := g.below b4 (by omega)
      replace v := v.below b4 (by omega)
      clear b4
      go_wp2_with fail
      refine (sameVis_any _ _ _ _ _ _ _ g.rd v.rd rl rl rfl rfl).mono ?_
      rintro e w5 ⟨rfl, b5⟩
      have s5 := b5.size
      replace B := bel_trans B b5
      replace o := o.below b5 (by omega)
      replace o2 := o2.below b5 (by omega)
      replace g := g.below b5 (by omega)
      replace v := v.below b5 (by omega)
      clear b5
      go_wp2
      go_ret
      exact ⟨rfl, B⟩
    | true =>
    go_wp2_with fail
    refine (sameVis_any _ _ _ _ _ _ _ g.rd v.rd rl rl rfl rfl).mono ?_
    rintro e w4 ⟨rfl, b4⟩
    have s4 := b4.size
    replace B := bel_trans B b4
    replace o := o.below b4 (by omega)
    replace o2 := o2.below b4 (by omega)
    replace g := g.below b4 (by omega)
    replace v := v.below b4 (by omega)
    clear b4
    clear v
    obtain ⟨h1, h2, h3, hE⟩ := apply_ok hok
    have hN := vis_N h1
    have hnb := nb_le hN.2
    have hnp := nb_pos hN.1 hN.2
    have LO := Lib.hid (show (gainApply (N : Int) as_ bs).1.length = nb N by rw [hE]; simp)
    have VO := Lib.hid (show visB (N : Int) (gainApply (N : Int) as_ bs).1 = true by rw [hE]; exact h3)
    have LA := Lib.hid (visB_len h1)
    have LB := Lib.hid (gainB_len h2)
    obtain ⟨k, hk⟩ : ∃ k : Nat, k = len1 % nb N := ⟨_, rfl⟩
    have hkn : k < nb N := by rw [hk]; exact Nat.mod_lt _ (by omega)
    have ek : (len1 : Int) % ((gainApply (N : Int) as_ bs).1.length : Int) = (k : Int) := by rw [LO.out, hk]; omega
    have ek2 : ¬ (gainApply (N : Int) as_ bs).1 = [] := fun e => by have := LO.out; rw [e] at this; simp at this; omega
    obtain ⟨bb1, bb2⟩ := bs_lt hN.2 hkn
    obtain ⟨ap1, ap2⟩ := apply_at hok hkn
    have v := vis_at h1 hkn
    have ga := gain_at h2 bb1
    have gb := gain_at h2 bb2
    clear hk hE
    go_wp2_with fail
    refine (BasePair_yes _ _ _ hN.1 hN.2 hkn).mono ?_
    rintro e w5 ⟨rfl, b5⟩
    have s5 := b5.size
    replace B := bel_trans B b5
    replace o := o.below b5 (by omega)
    replace o2 := o2.below b5 (by omega)
    replace g := g.below b5 (by omega)
    clear b5
    have GR := Lib.hid g.rd
    obtain ⟨q1, f1, e1, hq1, c1, c2⟩ := g.rd.pair_at (k := k) (by rw [LO.out]; exact hkn)
    subst e1
    obtain ⟨q2, f2, e2, hq2, c3, c4⟩ := o.rd.pair_at (k := k) (by rw [LA.out]; exact hkn)
    subst e2
    obtain ⟨q3, f3, e3, hq3, c5, c6⟩ := o2.rd.pair_at (k := b1 N k) (by rw [LB.out]; exact bb1)
    subst e3
    obtain ⟨q3', f3', e3, _, c7, c8⟩ := o2.rd.pair_at (k := b2 N k) (by rw [LB.out]; exact bb2)
    injection e3 with e3
    injection e3 with e31 e32
    subst e31 e32
    rw [ap1] at c1
    rw [ap2] at c2
    have i1 : (k : Int) < ((gainApply (N : Int) as_ bs).1.length : Int) := by rw [LO.out]; omega
    have i2 : (k : Int) < (as_.length : Int) := by rw [LA.out]; omega
    have i3 : ((b1 N k : Nat) : Int) < (bs.length : Int) := by rw [LB.out]; omega
    have i4 : ((b2 N k : Nat) : Int) < (bs.length : Int) := by rw [LB.out]; omega
    obtain ⟨p1, p2⟩ := mul_bd (x := g1 as_ k) (y := g1 bs (b1 N k)) (B := 1000000) (C := 99) (by omega) (by omega)
    obtain ⟨p3, p4⟩ := mul_bd (x := g1 as_ k * g1 bs (b1 N k)) (y := g1 bs (b2 N k)) (B := 99000000) (C := 99) (by omega) (by omega)
    have KC : Hid (∀ w' : World, Below w5.heap.size w5 w' → w'.cell? ⟨q1, f1 + k * 2, none⟩ = some (.int .i64 (g1 as_ k * g1 bs (b1 N k) * g1 bs (b2 N k))) ∧ w'.cell? ⟨q1, f1 + k * 2 + 1, none⟩ = some (.int .i64 ((g2 as_ k + g2 bs (b2 N k) - g2 bs (b1 N k)) % 360)) ∧ w'.cell? ⟨q2, f2 + k * 2, none⟩ = some (.int .i64 (g1 as_ k)) ∧ w'.cell? ⟨q2, f2 + k * 2 + 1, none⟩ = some (.int .i64 (g2 as_ k)) ∧ w'.cell? ⟨q3, f3 + b1 N k * 2, none⟩ = some (.int .i64 (g1 bs (b1 N k))) ∧ w'.cell? ⟨q3, f3 + b1 N k * 2 + 1, none⟩ = some (.int .i64 (g2 bs (b1 N k))) ∧ w'.cell? ⟨q3, f3 + b2 N k * 2, none⟩ = some (.int .i64 (g1 bs (b2 N k))) ∧ w'.cell? ⟨q3, f3 + b2 N k * 2 + 1, none⟩ = some (.int .i64 (g2 bs (b2 N k)))) :=
      Lib.hid fun w' h => ⟨bel_cell h hq1 c1, bel_cell h hq1 c2, bel_cell h hq2 c3, bel_cell h hq2 c4, bel_cell h hq3 c5, bel_cell h hq3 c6, bel_cell h hq3 c7, bel_cell h hq3 c8⟩
    have B0 := Lib.hid ((Below.refl w5.heap.size w5).drew)
    have BH := Lib.hid B
    have EK := Lib.hid ek
    have HV := Lib.hid (fun cc => VisValid_any (N : Int) (some ⟨q1, f1, none⟩) cc _ w5.drew GR.out rl rfl)
    clear B ap1 ap2 c1 c2 c3 c4 c5 c6 c7 c8 ek g o o2 h1 h2 h3
    generalize g1 as_ k = X at *
    generalize g2 as_ k = Y at *
    generalize g1 bs (b1 N k) = X1 at *
    generalize g2 bs (b1 N k) = Y1 at *
    generalize g1 bs (b2 N k) = X2 at *
    generalize g2 bs (b2 N k) = Y2 at *
    generalize b1 N k = I at *
    generalize b2 N k = J at *
    go_wp2_with fail
    rw [EK.out]
    have w1' : IntKind.i64.wrap (X * X1) = X * X1 := IntWalk.i64_in _ (by omega)
    have w2' : IntKind.i64.wrap (X * X1 * X2) = X * X1 * X2 := IntWalk.i64_in _ (by clear w1'; omega)
    have w3' : IntKind.i64.wrap (Y + Y2) = Y + Y2 := IntWalk.i64_in _ (by clear w1' w2'; omega)
    have w4' : IntKind.i64.wrap (Y + Y2 - Y1) = Y + Y2 - Y1 := IntWalk.i64_in _ (by clear w1' w2' w3'; omega)
    go_region_held3 (fun w' => w'.cell? ⟨q1, f1 + k * 2, none⟩ = some (.int .i64 (X * X1 * X2)) ∧ w'.cell? ⟨q1, f1 + k * 2 + 1, none⟩ = some (.int .i64 ((Y + Y2 - Y1) % 360)) ∧ w'.cell? ⟨q2, f2 + k * 2, none⟩ = some (.int .i64 X) ∧ w'.cell? ⟨q2, f2 + k * 2 + 1, none⟩ = some (.int .i64 Y) ∧ w'.cell? ⟨q3, f3 + I * 2, none⟩ = some (.int .i64 X1) ∧ w'.cell? ⟨q3, f3 + I * 2 + 1, none⟩ = some (.int .i64 Y1) ∧ w'.cell? ⟨q3, f3 + J * 2, none⟩ = some (.int .i64 X2) ∧ w'.cell? ⟨q3, f3 + J * 2 + 1, none⟩ = some (.int .i64 Y2)) (first | exact KC.out _ B1 | exact KC.out _ B0.out | go_keep) (first | (go_at_call 33; (with_reducible refine (PhaseOf_any _ _).mono ?_); rintro e wn ⟨rfl, rfl⟩) | (go_at_call 34; (with_reducible refine (HV.out _).mono ?_); rintro e wn ⟨rfl, b1⟩; have B1 := bel_trans B0.out b1; clear b1; rw [VO.out]))
    clear w1' w2' w3' w4'
    go_wp2
    go_ret
    exact ⟨rfl, bel_trans BH.out B1⟩

set_option maxRecDepth 100000 in
theorem lifted (os : Os) (started : os.Started) (H : Type) (enc : TypeId × Value → H) :
    ReturnsInHanded {} Try.checked os 12 .any (Rows.fnApplyGainsSpec.pre6 enc Try.prog Try.f12 Rows.fnApplyGainsRow.domain false) (Rows.fnApplyGainsSpec.post enc Try.prog Try.f12 false true false false) := by
  refine returnsInHanded_of_change (C := Try.checked) own started (by kernel_rfl) Try.func12
    (ChangeSpec.witness6 (enc := enc) (C := Try.checked) false ⟨#[], #[.slice none 0 0, .slice none 0 0], []⟩ 8 (by kernel_rfl) (by kernel_rfl) (by kernel_rfl) (by kernel_rfl)) ?_
  intro W base args ds gs before hval0 hW hcnd _
  have hval : ∀ (j : Nat) t v, Try.f12.params[j]? = some t → args[j]? = some v → Value.okWide Try.prog W .any base t v := hval0
  have hW' := hW
  obtain ⟨p, q, hA0, hV, rfl, hfz, hnd⟩ := hW
  have hA : DataW.TrodAll enc Try.prog W 0 (fun _ => true) true Try.f12.params.toList args.toList ds p := hA0
  rw [Try.params12] at hA hval
  obtain ⟨v0, vs0, d0, ds0, p0, q0, hargs, rfl, rfl, h0, r0⟩ := trodAll_cons hA
  obtain ⟨v1, vs1, d1, ds1, p1, q1, rfl, rfl, rfl, h1, r1⟩ := trodAll_cons r0
  obtain ⟨rfl, rfl, rfl⟩ := trodAll_nil r1
  obtain rfl : args = #[v0, v1] := by cases args; simp_all
  obtain ⟨rfl, rfl⟩ := trodVars_none hV
  obtain ⟨a0, len0, cap0, rfl⟩ := okWide_slice Try.underlying31 (hval 0 31 v0 rfl rfl)
  have k0 := h0
  have lt0 : ∀ x ∈ p0, x.block < W.heap.size := by obtain ⟨m, hm⟩ := k0; exact DataW.trod_lt m _ _ _ hm
  obtain ⟨z0, n0, u0, f0, c0⟩ := in_ints Try.underlying31 Try.underlying5 (by kernel_rfl) h0
  have w0 := Rd.bytes u0 n0 f0
  obtain ⟨a1, len1, cap1, rfl⟩ := okWide_slice Try.underlying31 (hval 1 31 v1 rfl rfl)
  have k1 := h1
  have lt1 : ∀ x ∈ p1, x.block < W.heap.size := by obtain ⟨m, hm⟩ := k1; exact DataW.trod_lt m _ _ _ hm
  obtain ⟨z1, n1, u1, f1, c1⟩ := in_ints Try.underlying31 Try.underlying5 (by kernel_rfl) h1
  have w1 := Rd.bytes u1 n1 f1
  clear hA0 hval0
  refine (walk W a0 len0 cap0 w0 c0 a1 len1 cap1 w1 c1).mono fun e W' ⟨he, bel⟩ => ?_
  subst he
  exact ⟨_, rfl, _, _, _, [], _, [], hW', trodAll_mk1 (shut_bool Try.underlying4 _), (trodAll_cons_mk (Below.trod laidOut (by kernel_rfl) (of_decide_eq_true (by kernel_rfl)) k0 bel lt0) (trodAll_cons_mk (Below.trod laidOut (by kernel_rfl) (of_decide_eq_true (by kernel_rfl)) k1 bel lt1) trodAll_mk0)), rfl, bel.frame _, fun h => by cases h⟩

theorem over : Rows.fnApplyGainsRow.holds Try.pinned (OpenSpec.ofChange Rows.fnApplyGainsSpec) :=
  OpenClaim.holds_of_wide 12 Try.f12 rfl rfl rfl rfl rfl rfl rfl ⟨rfl, rfl, rfl, rfl, rfl⟩ rfl rfl rfl rfl rfl (by kernel_rfl) Try.func12 (by kernel_rfl)
    (of_decide_eq_true (by kernel_rfl)) (by unfold Func.isWrapper; first | (rw [if_pos (by decide +kernel)]; kernel_rfl) | (rw [if_neg (by decide +kernel)]; exact ⟨rfl, rfl⟩))
    (fun os started H enc _ => lifted os started H enc)

theorem proved : Rows.FnApplyGainsSaid := over
#print axioms proved
end Go.Proofs.Ytahomhldochodaa.fnApplyGains
