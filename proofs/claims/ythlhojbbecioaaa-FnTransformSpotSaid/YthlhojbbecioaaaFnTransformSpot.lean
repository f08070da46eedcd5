/- A single number has a flat transform. For every input; each argument reads afterwards as it read before. -/
import Derived.Test.YthlhojbbecioaaaFrame
import Derived.Test.YthlhojbbecioaaaTrnB
import Derived.Test.YthlhojbbecioaaaDrawSky
import Derived.Test.YthlhojbbecioaaaSkyL
namespace Go.Proofs.Ythlhojbbecioaaa.fnTransformSpot
open Go.ChangeShapes Go.WideShapes Go.ChangeAt Go.RowKit Go.Deep
set_option linter.unusedVariables false

set_option maxHeartbeats 4000000 in
set_option maxRecDepth 100000 in
theorem walk (w : World) (a0 : Option Addr) (len0 cap0 : Nat) (h0 : Bytes w a0 len0 w.heap.size) (k0 : len0 ≤ cap0) (a1 : Option Addr) (len1 cap1 : Nat) (h1 : Bytes w a1 len1 w.heap.size) (k1 : len1 ≤ cap1) :
    Calls Try.prog 8 #[.slice a0 len0 cap0, .slice a1 len1 cap1] w fun e w' => e = .returned (.bool true) ∧ Below w.heap.size w w' := by
  by_cases g0 : len0 ≤ 1048576
  case neg =>
    go_enter Try.func8, Try.ntmps8
    go_wp2
    go_ret
    exact ⟨rfl, Below.refl _ _⟩
  by_cases g1 : len1 ≤ 1048576
  case neg =>
    go_enter Try.func8, Try.ntmps8
    go_wp2
    go_ret
    exact ⟨rfl, Below.refl _ _⟩
  case pos =>
    have B := Below.refl w.heap.size w
    go_enter Try.func8, Try.ntmps8
    go_wp2_with fail
    refine (DrawSkyTransform_any _ _ _ _ h0 k0).mono ?_
    rintro e w1 ⟨A, c, zs, rfl, hl, hc, o, b1⟩
    have s1 := b1.size
    replace B := bel_trans B b1
    clear b1
    go_wp2_with fail
    refine (SkyTransform_any _ _ _ _ o.rd (by omega) rfl).mono ?_
    rintro e w2 ⟨Ag, cg, rfl, clg, g, b2⟩
    have s2 := b2.size
    replace B := bel_trans B b2
    replace o := o.below b2 (by omega)
    clear b2
    go_wp2_with fail
    refine (sSkyTransform_any _ _ _ _ o.rd (by omega) rfl).mono ?_
    rintro e w3 ⟨Av, cv, rfl, clv, v, b3⟩
    have s3 := b3.size
    replace B := bel_trans B b3
    replace o := o.below b3 (by omega)
    replace g := g.below b3 (by omega)
    clear b3
    have rl : (skyTrn zs).1.length ≤ 1048592 := skyTrn_len _
    cases hok : (skyTrn zs).2 with
    | false =>
      go_wp2_with fail
      refine (sameGrid_any _ _ _ _ _ _ _ g.rd v.rd rl rl rfl rfl).mono ?_
      rintro e w4 ⟨rfl, b4⟩
      have s4 := b4.size
      replace B := bel_trans B b4
      replace o := o.below b4 (by omega)
      replace g := g.below b4 (by omega)
      replace v := v.below b4 (by omega)
      clear b4
      go_wp2_with fail
      refine (sameGrid_any _ _ _ _ _ _ _ g.rd v.rd rl rl rfl rfl).mono ?_
      rintro e w5 ⟨rfl, b5⟩
      have s5 := b5.size
      replace B := bel_trans B b5
      replace o := o.below b5 (by omega)
      replace g := g.below b5 (by omega)
      replace v := v.below b5 (by omega)
      clear b5
      go_wp2
      go_ret
      exact ⟨rfl, B⟩
    | true =>
    go_wp2_with fail
    refine (sameGrid_any _ _ _ _ _ _ _ g.rd v.rd rl rl rfl rfl).mono ?_
    rintro e w4 ⟨rfl, b4⟩
    have s4 := b4.size
    replace B := bel_trans B b4
    replace o := o.below b4 (by omega)
    replace g := g.below b4 (by omega)
    replace v := v.below b4 (by omega)
    clear b4
    clear v
    obtain ⟨vs, hr⟩ := trn_ok hok
    have HR := Lib.hid hr
    have hz1 : zs.length ≤ 16 := Nat.le_of_eq (skyB_len vs)
    have hz2 : 16 ≤ zs.length := Nat.le_of_eq (skyB_len vs).symm
    have hq1 : (skyTrn zs).1.length ≤ 16 := by rw [hr]; simp
    have hq2 : 16 ≤ (skyTrn zs).1.length := by rw [hr]; simp
    clear hr
    obtain ⟨m, hm⟩ : ∃ m : Nat, m = len1 % 16 := ⟨_, rfl⟩
    have m16 : m < 16 := by omega
    have em : (len1 : Int) % 16 = (m : Int) := by omega
    clear hm
    obtain ⟨p, hp⟩ : ∃ p : Nat, p = len1 % 50 := ⟨_, rfl⟩
    have p50 : p < 50 := by omega
    have ep : (len1 : Int) % 50 = (p : Int) := by omega
    clear hp
    go_wp2_with fail
    refine (spot_any _ _ _ (by omega) (by omega)).mono ?_
    rintro e w5 ⟨Ao3, rfl, o3, b5⟩
    have s5 := b5.size
    replace B := bel_trans B b5
    replace o := o.below b5 (by omega)
    replace g := g.below b5 (by omega)
    clear b5
    rw [show ((m : Nat) : Int).toNat = m from Int.toNat_natCast m] at o3
    have v2 : skyB (spotL m (1 + (p : Int))) = true := skyB_spot m16 (by omega)
    have t2 : (skyTrn (spotL m (1 + (p : Int)))).2 = true := by rw [trn_mk v2]
    have HR2 := Lib.hid (trn_ok t2).2
    have hr1 : (skyTrn (spotL m (1 + (p : Int)))).1.length ≤ 16 := by rw [HR2.out]; simp
    have hr2 : 16 ≤ (skyTrn (spotL m (1 + (p : Int)))).1.length := by rw [HR2.out]; simp
    go_wp2_with fail
    refine (SkyTransform_any _ _ _ _ o3.rd (by simp) (by simp)).mono ?_
    rintro e w6 ⟨At1', ct1', rfl, clt1', t1', b6⟩
    have s6 := b6.size
    replace B := bel_trans B b6
    replace o := o.below b6 (by omega)
    replace g := g.below b6 (by omega)
    replace o3 := o3.below b6 (by omega)
    clear b6
    go_wp2
    go_loopw [13] (fun i wr => ∃ k : Nat, k ≤ 16 ∧ i = .int .i64 k ∧ Below w6.heap.size w6 wr) (fun i _ => 16 - (intOf i).toNat)
    case atStart => exact ⟨0, Nat.zero_le _, rfl, Below.refl _ _⟩
    case round =>
      obtain ⟨k, hk, rfl, hb⟩ := hrel
      have hot := t1'.below hb (by omega)
      by_cases hlt : k < 16
      · obtain ⟨q2, of2, e2, _, hc2, hc3⟩ := hot.rd.pair_at (k := k) (by omega)
        subst e2
        rw [HR2.out, g1_trn _ hlt] at hc2
        rw [HR2.out, g2_trn _ hlt] at hc3
        have i2 : (k : Int) < ((skyTrn (spotL m (1 + (p : Int)))).1.length : Int) := by omega
        have hT := tre_bd v2 k (Nat.le_refl 16)
        have hI := tim_bd v2 k (Nat.le_refl 16)
        have HN := Lib.hid (spot_norm (1 + (p : Int)) m16 k)
        obtain ⟨n1, n2⟩ := mul_bd (x := 1 + (p : Int)) (y := 1 + (p : Int)) (B := 100) (C := 100) (by omega) (by omega)
        go_wp2_with fail
        refine (GaussNorm_any _ _ _ (by omega) (by omega)).mono ?_
        rintro e wn ⟨rfl, bn⟩
        replace hb := hb.trans (bn.mono hb.size)
        rw [HN.out]
        clear bn hc2 hc3
        go_wp2
        go_roundw
        case rel => exact ⟨k + 1, by omega, by go_num, hb⟩
        case measure => simp [intOf]; omega
      · obtain rfl : k = 16 := by omega
        have hle : (((skyTrn (spotL m (1 + (p : Int)))).1.length : Int) == ((skyTrn zs).1.length : Int)) = true := by rw [beq_iff_eq]; omega
        go_wp2
        go_ret
        exact ⟨rfl, bel_trans B hb⟩

set_option maxRecDepth 100000 in
theorem lifted (os : Os) (started : os.Started) (H : Type) (enc : TypeId × Value → H) :
    ReturnsInHanded {} Try.checked os 8 .any (Rows.fnTransformSpotSpec.pre6 enc Try.prog Try.f8 Rows.fnTransformSpotRow.domain false) (Rows.fnTransformSpotSpec.post enc Try.prog Try.f8 false true false false) := by
  refine returnsInHanded_of_change (C := Try.checked) own started (by kernel_rfl) Try.func8
    (ChangeSpec.witness6 (enc := enc) (C := Try.checked) false ⟨#[], #[.slice none 0 0, .slice none 0 0], []⟩ 8 (by kernel_rfl) (by kernel_rfl) (by kernel_rfl) (by kernel_rfl)) ?_
  intro W base args ds gs before hval0 hW hcnd _
  have hval : ∀ (j : Nat) t v, Try.f8.params[j]? = some t → args[j]? = some v → Value.okWide Try.prog W .any base t v := hval0
  have hW' := hW
  obtain ⟨p, q, hA0, hV, rfl, hfz, hnd⟩ := hW
  have hA : DataW.TrodAll enc Try.prog W 0 (fun _ => true) true Try.f8.params.toList args.toList ds p := hA0
  rw [Try.params8] at hA hval
  obtain ⟨v0, vs0, d0, ds0, p0, q0, hargs, rfl, rfl, h0, r0⟩ := trodAll_cons hA
  obtain ⟨v1, vs1, d1, ds1, p1, q1, rfl, rfl, rfl, h1, r1⟩ := trodAll_cons r0
  obtain ⟨rfl, rfl, rfl⟩ := trodAll_nil r1
  obtain rfl : args = #[v0, v1] := by cases args; simp_all
  obtain ⟨rfl, rfl⟩ := trodVars_none hV
  obtain ⟨a0, len0, cap0, rfl⟩ := okWide_slice Try.underlying22 (hval 0 22 v0 rfl rfl)
  have k0 := h0
  have lt0 : ∀ x ∈ p0, x.block < W.heap.size := by obtain ⟨m, hm⟩ := k0; exact DataW.trod_lt m _ _ _ hm
  obtain ⟨z0, n0, u0, f0, c0⟩ := in_ints Try.underlying22 Try.underlying5 (by kernel_rfl) h0
  have w0 := Rd.bytes u0 n0 f0
  obtain ⟨a1, len1, cap1, rfl⟩ := okWide_slice Try.underlying22 (hval 1 22 v1 rfl rfl)
  have k1 := h1
  have lt1 : ∀ x ∈ p1, x.block < W.heap.size := by obtain ⟨m, hm⟩ := k1; exact DataW.trod_lt m _ _ _ hm
  obtain ⟨z1, n1, u1, f1, c1⟩ := in_ints Try.underlying22 Try.underlying5 (by kernel_rfl) h1
  have w1 := Rd.bytes u1 n1 f1
  clear hA0 hval0
  refine (walk W a0 len0 cap0 w0 c0 a1 len1 cap1 w1 c1).mono fun e W' ⟨he, bel⟩ => ?_
  subst he
  exact ⟨_, rfl, _, _, _, [], _, [], hW', trodAll_mk1 (shut_bool Try.underlying4 _), (trodAll_cons_mk (Below.trod laidOut (by kernel_rfl) (of_decide_eq_true (by kernel_rfl)) k0 bel lt0) (trodAll_cons_mk (Below.trod laidOut (by kernel_rfl) (of_decide_eq_true (by kernel_rfl)) k1 bel lt1) trodAll_mk0)), rfl, bel.frame _, fun h => by cases h⟩

theorem over : Rows.fnTransformSpotRow.holds Try.pinned (OpenSpec.ofChange Rows.fnTransformSpotSpec) :=
  OpenClaim.holds_of_wide 8 Try.f8 rfl rfl rfl rfl rfl rfl rfl ⟨rfl, rfl, rfl, rfl, rfl⟩ rfl rfl rfl rfl rfl (by kernel_rfl) Try.func8 (by kernel_rfl)
    (of_decide_eq_true (by kernel_rfl)) (by unfold Func.isWrapper; first | (rw [if_pos (by decide +kernel)]; kernel_rfl) | (rw [if_neg (by decide +kernel)]; exact ⟨rfl, rfl⟩))
    (fun os started H enc _ => lifted os started H enc)

theorem proved : Rows.FnTransformSpotSaid := over
#print axioms proved
end Go.Proofs.Ythlhojbbecioaaa.fnTransformSpot
