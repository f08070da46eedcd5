/- Each loop needs three baselines. For every input; each argument reads afterwards as it read before. -/
import Derived.Test.YtopneihamefohaaFrame
import Derived.Test.YtopneihamefohaaFlagL
import Derived.Test.YtopneihamefohaaDrawFlag
namespace Go.Proofs.Ytopneihamefohaa.fnLoopsGroups
open Go.ChangeShapes Go.WideShapes Go.ChangeAt Go.RowKit Go.Deep
set_option linter.unusedVariables false

set_option maxHeartbeats 4000000 in
set_option maxRecDepth 100000 in
theorem walk (w : World) (a0 : Option Addr) (len0 cap0 : Nat) (h0 : Bytes w a0 len0 w.heap.size) (k0 : len0 ≤ cap0) :
    Calls Try.prog 11 #[.slice a0 len0 cap0] w fun e w' => e = .returned (.bool true) ∧ Below w.heap.size w w' := by
  by_cases gl0 : len0 ≤ 1048576
  case neg =>
    go_enter Try.func11, Try.ntmps11
    go_wp2
    go_ret
    exact ⟨rfl, Below.refl _ _⟩
  case pos =>
    have B := Below.refl w.heap.size w
    go_enter Try.func11, Try.ntmps11
    go_wp2_with fail
    refine (DrawFlagLoops_any _ _ _ _ h0 k0).mono ?_
    rintro e w1 ⟨n, A, c, fl, rfl, n1, n8, lf, lc, o, b1⟩
    have s1 := b1.size
    replace B := bel_trans B b1
    clear b1
    go_wp2_with fail
    refine (FlagLoops_any _ _ _ _ _ o.rd (by omega) rfl).mono ?_
    rintro e w2 ⟨rfl, b2⟩
    have s2 := b2.size
    replace B := bel_trans B b2
    replace o := o.below b2 (by omega)
    clear b2
    go_wp2_with fail
    refine (sFlagLoops_any _ _ _ _ _ o.rd (by omega) rfl).mono ?_
    rintro e w3 ⟨rfl, b3⟩
    have s3 := b3.size
    replace B := bel_trans B b3
    replace o := o.below b3 (by omega)
    clear b3
    cases hok : flB n fl with
    | false =>
      rw [loops_no hok]
      go_wp2
      go_ret
      exact ⟨rfl, B⟩
    | true =>
    obtain ⟨N, rfl, n2, n7, hlen⟩ := flB_ok hok
    obtain ⟨lc1, lc2, lc3, lc4, lc5, lc6, lc7, lc8⟩ := loops_cyc hok
    have hnb := nb_le n7
    have hnp := nb_pos n2 n7
    have HLn := Lib.hid hlen
    have HC := Lib.hid lc1
    have p0 : 0 ≤ flagLoops (N : Int) fl := by omega
    have p1 : flagLoops (N : Int) fl ≤ 21 := by omega
    have p2 : decide (flagLoops (N : Int) fl < 0) = false := by simp; omega
    have hG := loops_groups hok
    obtain ⟨hG1, hG2, hG3⟩ := hG
    clear hlen lc1 lc2 lc6
    have hl1 : fl.length ≤ 21 := by have := HLn.out; omega
    generalize flagLoops (N : Int) fl = X at *
    go_wp2
    go_loopw [7, 8] (fun v i wr => ∃ k : Nat, k ≤ fl.length ∧ i = .int .i64 k ∧ v = .int .i64 (gd fl k : Int) ∧ Below w3.heap.size w3 wr) (fun _ i _ => fl.length - (intOf i).toNat)
    case atStart => exact ⟨0, Nat.zero_le _, rfl, rfl, Below.refl _ _⟩
    case round =>
      obtain ⟨j, hj, rfl, rfl, hb⟩ := hrel
      have hoo := o.below hb (by omega)
      have hg := gd_le fl j
      obtain ⟨s1', s2'⟩ := gd_step fl j
      by_cases hlt : j < fl.length
      · obtain ⟨b', o', rfl, _, hc⟩ := hoo.rd.bool_at hlt
        have i1 : (j : Int) < (fl.length : Int) := by omega
        cases hgb : gb fl j with
        | false =>
          rw [hgb] at hc
          have HS := Lib.hid (s1' hgb)
          clear s1' s2' hgb
          go_wp2
          go_roundw
          case rel => exact ⟨j + 1, by omega, by go_num, by rw [HS.out]; go_num, hb⟩
          case measure => simp [intOf]; omega
        | true =>
          rw [hgb] at hc
          have HS := Lib.hid (s2' hgb)
          clear s1' s2' hgb
          go_wp2
          go_roundw
          case rel => exact ⟨j + 1, by omega, by go_num, by rw [HS.out], hb⟩
          case measure => simp [intOf]; omega
      · obtain rfl : j = fl.length := by omega
        rw [← HLn.out] at hG1 hG2 hG3
        clear s1' s2'
        have d3 : decide (X ≤ (gd fl fl.length : Int)) = true := by simpa using hG3
        have d4 : decide ((gd fl fl.length : Int) - ((N : Int) - 1) ≤ X) = true := by simpa using hG2
        by_cases hbig : 2 < gd fl fl.length
        · have d5 : decide ((2 : Int) < (gd fl fl.length : Int)) = true := by simp; omega
          have b5 : (2 : Int) < (gd fl fl.length : Int) := by omega
          clear hG1
          go_wp2
          go_ret
          exact ⟨ret_bool (by first | (simp; done) | (simp; omega)), bel_trans B hb⟩
        · have d5 : decide ((2 : Int) < (gd fl fl.length : Int)) = false := by simp; omega
          have b5 : ¬ (2 : Int) < (gd fl fl.length : Int) := by omega
          obtain rfl : X = 0 := by omega
          clear hG1
          go_wp2
          go_ret
          exact ⟨ret_bool (by first | (simp; done) | (simp; omega)), bel_trans B hb⟩

set_option maxRecDepth 100000 in
theorem lifted (os : Os) (started : os.Started) (H : Type) (enc : TypeId × Value → H) :
    ReturnsInHanded {} Try.checked os 11 .any (Rows.fnLoopsGroupsSpec.pre6 enc Try.prog Try.f11 Rows.fnLoopsGroupsRow.domain false) (Rows.fnLoopsGroupsSpec.post enc Try.prog Try.f11 false true false false) := by
  refine returnsInHanded_of_change (C := Try.checked) own started (by kernel_rfl) Try.func11
    (ChangeSpec.witness6 (enc := enc) (C := Try.checked) false ⟨#[], #[.slice none 0 0], []⟩ 8 (by kernel_rfl) (by kernel_rfl) (by kernel_rfl) (by kernel_rfl)) ?_
  intro W base args ds gs before hval0 hW hcnd _
  have hval : ∀ (j : Nat) t v, Try.f11.params[j]? = some t → args[j]? = some v → Value.okWide Try.prog W .any base t v := hval0
  have hW' := hW
  obtain ⟨p, q, hA0, hV, rfl, hfz, hnd⟩ := hW
  have hA : DataW.TrodAll enc Try.prog W 0 (fun _ => true) true Try.f11.params.toList args.toList ds p := hA0
  rw [Try.params11] at hA hval
  obtain ⟨v0, vs0, d0, ds0, p0, q0, hargs, rfl, rfl, h0, r0⟩ := trodAll_cons hA
  obtain ⟨rfl, rfl, rfl⟩ := trodAll_nil r0
  obtain rfl : args = #[v0] := by cases args; simp_all
  obtain ⟨rfl, rfl⟩ := trodVars_none hV
  obtain ⟨a0, len0, cap0, rfl⟩ := okWide_slice Try.underlying24 (hval 0 24 v0 rfl rfl)
  have k0 := h0
  have lt0 : ∀ x ∈ p0, x.block < W.heap.size := by obtain ⟨m, hm⟩ := k0; exact DataW.trod_lt m _ _ _ hm
  obtain ⟨z0, n0, u0, f0, c0⟩ := in_ints Try.underlying24 Try.underlying5 (by kernel_rfl) h0
  have w0 := Rd.bytes u0 n0 f0
  clear hA0 hval0
  refine (walk W a0 len0 cap0 w0 c0).mono fun e W' ⟨he, bel⟩ => ?_
  subst he
  exact ⟨_, rfl, _, _, _, [], _, [], hW', trodAll_mk1 (shut_bool Try.underlying4 _), (trodAll_cons_mk (Below.trod laidOut (by kernel_rfl) (of_decide_eq_true (by kernel_rfl)) k0 bel lt0) trodAll_mk0), rfl, bel.frame _, fun h => by cases h⟩

theorem over : Rows.fnLoopsGroupsRow.holds Try.pinned (OpenSpec.ofChange Rows.fnLoopsGroupsSpec) :=
  OpenClaim.holds_of_wide 11 Try.f11 rfl rfl rfl rfl rfl rfl rfl ⟨rfl, rfl, rfl, rfl, rfl⟩ rfl rfl rfl rfl rfl (by kernel_rfl) Try.func11 (by kernel_rfl)
    (of_decide_eq_true (by kernel_rfl)) (by unfold Func.isWrapper; first | (rw [if_pos (by decide +kernel)]; kernel_rfl) | (rw [if_neg (by decide +kernel)]; exact ⟨rfl, rfl⟩))
    (fun os started H enc _ => lifted os started H enc)

theorem proved : Rows.FnLoopsGroupsSaid := over
#print axioms proved
end Go.Proofs.Ytopneihamefohaa.fnLoopsGroups
