/- Gains are removed one after the other, in any order. For every input; each argument reads afterwards as it read before. -/
import Derived.Test.YtahomhldochodaaFrame
import Derived.Test.YtahomhldochodaaApplyA
import Derived.Test.YtahomhldochodaaApplyS
import Derived.Test.YtahomhldochodaaDrawApply
import Derived.Test.YtahomhldochodaaApplyL
import Derived.Test.YtahomhldochodaaRemoveA
import Derived.Test.YtahomhldochodaaRemoveS
import Derived.Test.YtahomhldochodaaDrawRemove
import Derived.Test.YtahomhldochodaaJoin
namespace Go.Proofs.Ytahomhldochodaa.fnRemoveTwice
open Go.ChangeShapes Go.WideShapes Go.ChangeAt Go.RowKit Go.Deep
set_option linter.unusedVariables false

set_option maxHeartbeats 4000000 in
set_option maxRecDepth 100000 in
theorem walk (w : World) (a0 : Option Addr) (len0 cap0 : Nat) (h0 : Bytes w a0 len0 w.heap.size) (k0 : len0 ≤ cap0) (a1 : Option Addr) (len1 cap1 : Nat) (h1 : Bytes w a1 len1 w.heap.size) (k1 : len1 ≤ cap1) :
    Calls Try.prog 14 #[.slice a0 len0 cap0, .slice a1 len1 cap1] w fun e w' => e = .returned (.bool true) ∧ Below w.heap.size w w' := by
  by_cases g0 : len0 ≤ 1048576
  case neg =>
    go_enter Try.func14, Try.ntmps14
    go_wp2
    go_ret
    exact ⟨rfl, Below.refl _ _⟩
  by_cases g1 : len1 ≤ 1048576
  case neg =>
    go_enter Try.func14, Try.ntmps14
    go_wp2
    go_ret
    exact ⟨rfl, Below.refl _ _⟩
  case pos =>
    have B := Below.refl w.heap.size w
    go_enter Try.func14, Try.ntmps14
    go_wp2_with fail
    refine (DrawGainRemove_any _ _ _ _ h0 k0).mono ?_
    rintro e w1 ⟨N, A, A2, c, c2, as_, bs, rfl, n2, n6, la, lb, o, o2, b1⟩
    have s1 := b1.size
    replace B := bel_trans B b1
    clear b1
    go_wp2_with fail
    refine (GainRemove_any _ _ _ _ _ _ _ _ o.rd o2.rd (by omega) (by omega) rfl rfl).mono ?_
    rintro e w2 ⟨Ag, cg, rfl, clg, g, b2⟩
    have s2 := b2.size
    replace B := bel_trans B b2
    replace o := o.below b2 (by omega)
    replace o2 := o2.below b2 (by omega)
    clear b2
    go_wp2_with fail
    refine (sGainRemove_any _ _ _ _ _ _ _ _ o.rd o2.rd (by omega) (by omega) rfl rfl).mono ?_
    rintro e w3 ⟨Av, cv, rfl, clv, v, b3⟩
    have s3 := b3.size
    replace B := bel_trans B b3
    replace o := o.below b3 (by omega)
    replace o2 := o2.below b3 (by omega)
    replace g := g.below b3 (by omega)
    clear b3
    have rl : (gainRemove (N : Int) as_ bs).1.length ≤ 1048592 := gainRemove_len _ _ _
    cases hok : (gainRemove (N : Int) as_ bs).2 with
    | false =>
      go_wp2_with fail
      refine (sameVis_any _ _ _ _ _ _ _ g.rd v.rd rl rl rfl rfl).mono ?_
      rintro e w4 ⟨rfl, b4⟩
      have s4 := b4.size
      replace B := bel_trans B b4
      replace o := o.below b4 (by omega)
      replace o2 := o2.below b4 (by omega)
      replace g := g.below b4 (by omega)
      replace v := v.below b4 (by omega)
      clear b4
      go_wp2_with fail
      refine (sameVis_any _ _ _ _ _ _ _ g.rd v.rd rl rl rfl rfl).mono ?_
      rintro e w5 ⟨rfl, b5⟩
      have s5 := b5.size
      replace B := bel_trans B b5
      replace o := o.below b5 (by omega)
      replace o2 := o2.below b5 (by omega)
      replace g := g.below b5 (by omega)
      replace v := v.below b5 (by omega)
      clear b5
      go_wp2
      go_ret
      exact ⟨rfl, B⟩
    | true =>
    go_wp2_with fail
    refine (sameVis_any _ _ _ _ _ _ _ g.rd v.rd rl rl rfl rfl).mono ?_
    rintro e w4 ⟨rfl, b4⟩
    have s4 := b4.size
    replace B := bel_trans B b4
    replace o := o.below b4 (by omega)
    replace o2 := o2.below b4 (by omega)
    replace g := g.below b4 (by omega)
    replace v := v.below b4 (by omega)
    clear b4
    clear v
    go_wp2_with fail
    refine (ones_any _ _ (by omega)).mono ?_
    rintro e w5 ⟨A3, c3, rfl, o3, b5⟩
    have s5 := b5.size
    replace B := bel_trans B b5
    replace o := o.below b5 (by omega)
    replace o2 := o2.below b5 (by omega)
    replace g := g.below b5 (by omega)
    clear b5
    go_wp2
    go_loopw [13] (fun i wr => ∃ (k : Nat) (O : List (Int × Int)), k ≤ N ∧ i = .int .i64 k ∧ OnesPh N O ∧ Ow wr 38 w4.heap.size w5.heap.size A3 (pairs O) ∧ Only w5 wr w4.heap.size w5.heap.size ∧ w5.heap.size ≤ wr.heap.size ∧ wr.heap.size ≤ w5.heap.size) (fun i _ => N - (intOf i).toNat)
    case atStart => exact ⟨0, _, Nat.zero_le _, rfl, OnesPh.ones N, o3, Only.refl _ _ _, Nat.le_refl _, Nat.le_refl _⟩
    case round =>
      obtain ⟨k, C, hk, rfl, hC, hO, hon, hz1, hz2⟩ := hrel
      by_cases hlt : k < N
      · have hCl := Nat.le_of_eq hC.1.symm
        obtain ⟨gq, of, rfl, q1, q2, q3, hc1, hc2, hf1, hf2, _, _, hset⟩ := hO.pair_at (k := k) (by omega)
        have HS := Lib.hid (hset (((k : Int) * (k : Int) * 31 + (len1 : Int)) % 360))
        have HO := Lib.hid (hon.setCell (p := ⟨gq, of + k * 2 + 1, none⟩) q1 q2 (.int .i64 (((k : Int) * (k : Int) * 31 + (len1 : Int)) % 360)))
        have HC := Lib.hid (hC.set k (((k : Int) * (k : Int) * 31 + (len1 : Int)) % 360) hlt (by omega) (by omega))
        obtain ⟨kk1, kk2⟩ := mul_bd (x := (k : Int)) (y := (k : Int)) (B := 7) (C := 7) (by omega) (by omega)
        have kk3 : 0 ≤ (k : Int) * (k : Int) := Int.mul_nonneg (by omega) (by omega)
        have i1 : (k : Int) < (N : Int) := by omega
        clear hset hC hO hon
        go_wp2
        go_roundw
        case rel => exact ⟨k + 1, C.set k (Go.Proofs.Ytahomhldochodaa.g1 C k, ((k : Int) * (k : Int) * 31 + (len1 : Int)) % 360), by omega, by go_num, HC.out, HS.out, HO.out, by simpa [World.setCell] using hz1, by simpa [World.setCell] using hz2⟩
        case measure => simp [intOf]; omega
      · have HC := Lib.hid hC
        have HCl := Lib.hid hC.1
        have hCl : C.length ≤ 1048592 := by have := hC.1; omega
        replace o := o.only hon (.inl (by omega))
        replace o2 := o2.only hon (.inl (by omega))
        replace g := g.only hon (.inl (by omega))
        replace B := hon.below B (by omega) (Nat.le_refl _)
        clear o3 hon hC
        have o3 := hO
        clear hO
        obtain ⟨r1, r2, r3, r4⟩ := remove_twice hok (HC.out.gain (vis_N (remove_ok hok).1).1 (vis_N (remove_ok hok).1).2) HC.out.2.1
        have R4 := Lib.hid r4
        clear r4
        go_wp2_with fail
        refine (GainRemove_any _ _ _ _ _ _ _ _ g.rd o3.rd rl hCl rfl HCl.out).mono ?_
        rintro e w6 ⟨Ax1', cx1', rfl, clx1', x1', b6⟩
        have s6 := b6.size
        replace B := bel_trans B b6
        replace o := o.below b6 (by omega)
        replace o2 := o2.below b6 (by omega)
        replace g := g.below b6 (by omega)
        replace o3 := o3.below b6 (by omega)
        clear b6
        rw [r1]
        go_wp2_with fail
        refine (GainRemove_any _ _ _ _ _ _ _ _ o.rd o3.rd (by omega) hCl rfl HCl.out).mono ?_
        rintro e w7 ⟨Ay1', cy1', rfl, cly1', y1', b7⟩
        have s7 := b7.size
        replace B := bel_trans B b7
        replace o := o.below b7 (by omega)
        replace o2 := o2.below b7 (by omega)
        replace g := g.below b7 (by omega)
        replace o3 := o3.below b7 (by omega)
        replace x1' := x1'.below b7 (by omega)
        clear b7
        rw [r2]
        go_wp2_with fail
        refine (GainRemove_any _ _ _ _ _ _ _ _ y1'.rd o2.rd (gainRemove_len _ _ _) (by omega) rfl rfl).mono ?_
        rintro e w8 ⟨Az1', cz1', rfl, clz1', z1', b8⟩
        have s8 := b8.size
        replace B := bel_trans B b8
        replace o := o.below b8 (by omega)
        replace o2 := o2.below b8 (by omega)
        replace g := g.below b8 (by omega)
        replace o3 := o3.below b8 (by omega)
        replace x1' := x1'.below b8 (by omega)
        replace y1' := y1'.below b8 (by omega)
        clear b8
        rw [r3]
        go_wp2_with fail
        refine (sameVis_any _ _ _ _ _ _ _ x1'.rd z1'.rd (gainRemove_len _ _ _) (gainRemove_len _ _ _) rfl rfl).mono ?_
        rintro e w9 ⟨rfl, b9⟩
        have s9 := b9.size
        replace B := bel_trans B b9
        replace o := o.below b9 (by omega)
        replace o2 := o2.below b9 (by omega)
        replace g := g.below b9 (by omega)
        replace o3 := o3.below b9 (by omega)
        replace x1' := x1'.below b9 (by omega)
        replace y1' := y1'.below b9 (by omega)
        replace z1' := z1'.below b9 (by omega)
        clear b9
        rw [decide_eq_true R4.out]
        go_wp2
        go_ret
        exact ⟨rfl, B⟩

set_option maxRecDepth 100000 in
theorem lifted (os : Os) (started : os.Started) (H : Type) (enc : TypeId × Value → H) :
    ReturnsInHanded {} Try.checked os 14 .any (Rows.fnRemoveTwiceSpec.pre6 enc Try.prog Try.f14 Rows.fnRemoveTwiceRow.domain false) (Rows.fnRemoveTwiceSpec.post enc Try.prog Try.f14 false true false false) := by
  refine returnsInHanded_of_change (C := Try.checked) own started (by kernel_rfl) Try.func14
    (ChangeSpec.witness6 (enc := enc) (C := Try.checked) false ⟨#[], #[.slice none 0 0, .slice none 0 0], []⟩ 8 (by kernel_rfl) (by kernel_rfl) (by kernel_rfl) (by kernel_rfl)) ?_
  intro W base args ds gs before hval0 hW hcnd _
  have hval : ∀ (j : Nat) t v, Try.f14.params[j]? = some t → args[j]? = some v → Value.okWide Try.prog W .any base t v := hval0
  have hW' := hW
  obtain ⟨p, q, hA0, hV, rfl, hfz, hnd⟩ := hW
  have hA : DataW.TrodAll enc Try.prog W 0 (fun _ => true) true Try.f14.params.toList args.toList ds p := hA0
  rw [Try.params14] at hA hval
  obtain ⟨v0, vs0, d0, ds0, p0, q0, hargs, rfl, rfl, h0, r0⟩ := trodAll_cons hA
  obtain ⟨v1, vs1, d1, ds1, p1, q1, rfl, rfl, rfl, h1, r1⟩ := trodAll_cons r0
  obtain ⟨rfl, rfl, rfl⟩ := trodAll_nil r1
  obtain rfl : args = #[v0, v1] := by cases args; simp_all
  obtain ⟨rfl, rfl⟩ := trodVars_none hV
  obtain ⟨a0, len0, cap0, rfl⟩ := okWide_slice Try.underlying31 (hval 0 31 v0 rfl rfl)
  have k0 := h0
  have lt0 : ∀ x ∈ p0, x.block < W.heap.size := by obtain ⟨m, hm⟩ := k0; exact DataW.trod_lt m _ _ _ hm
  obtain ⟨z0, n0, u0, f0, c0⟩ := in_ints Try.underlying31 Try.underlying5 (by kernel_rfl) h0
  have w0 := Rd.bytes u0 n0 f0
  obtain ⟨a1, len1, cap1, rfl⟩ := okWide_slice Try.underlying31 (hval 1 31 v1 rfl rfl)
  have k1 := h1
  have lt1 : ∀ x ∈ p1, x.block < W.heap.size := by obtain ⟨m, hm⟩ := k1; exact DataW.trod_lt m _ _ _ hm
  obtain ⟨z1, n1, u1, f1, c1⟩ := in_ints Try.underlying31 Try.underlying5 (by kernel_rfl) h1
  have w1 := Rd.bytes u1 n1 f1
  clear hA0 hval0
  refine (walk W a0 len0 cap0 w0 c0 a1 len1 cap1 w1 c1).mono fun e W' ⟨he, bel⟩ => ?_
  subst he
  exact ⟨_, rfl, _, _, _, [], _, [], hW', trodAll_mk1 (shut_bool Try.underlying4 _), (trodAll_cons_mk (Below.trod laidOut (by kernel_rfl) (of_decide_eq_true (by kernel_rfl)) k0 bel lt0) (trodAll_cons_mk (Below.trod laidOut (by kernel_rfl) (of_decide_eq_true (by kernel_rfl)) k1 bel lt1) trodAll_mk0)), rfl, bel.frame _, fun h => by cases h⟩

theorem over : Rows.fnRemoveTwiceRow.holds Try.pinned (OpenSpec.ofChange Rows.fnRemoveTwiceSpec) :=
  OpenClaim.holds_of_wide 14 Try.f14 rfl rfl rfl rfl rfl rfl rfl ⟨rfl, rfl, rfl, rfl, rfl⟩ rfl rfl rfl rfl rfl (by kernel_rfl) Try.func14 (by kernel_rfl)
    (of_decide_eq_true (by kernel_rfl)) (by unfold Func.isWrapper; first | (rw [if_pos (by decide +kernel)]; kernel_rfl) | (rw [if_neg (by decide +kernel)]; exact ⟨rfl, rfl⟩))
    (fun os started H enc _ => lifted os started H enc)

theorem proved : Rows.FnRemoveTwiceSaid := over
#print axioms proved
end Go.Proofs.Ytahomhldochodaa.fnRemoveTwice
