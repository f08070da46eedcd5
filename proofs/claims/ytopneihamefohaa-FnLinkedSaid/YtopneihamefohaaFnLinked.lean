/- Baselines link antennas. For every input; each argument reads afterwards as it read before. -/
import Derived.Test.YtopneihamefohaaFrame
import Derived.Test.YtopneihamefohaaFlagL
import Derived.Test.YtopneihamefohaaDrawFlag
namespace Go.Proofs.Ytopneihamefohaa.fnLinked
open Go.ChangeShapes Go.WideShapes Go.ChangeAt Go.RowKit Go.Deep
set_option linter.unusedVariables false

set_option maxHeartbeats 1500000 in
set_option maxRecDepth 100000 in
theorem walk (w : World) (a0 : Option Addr) (len0 cap0 : Nat) (h0 : Bytes w a0 len0 w.heap.size) (k0 : len0 ≤ cap0) :
    Calls Try.prog 8 #[.slice a0 len0 cap0] w fun e w' => e = .returned (.bool true) ∧ Below w.heap.size w w' := by
  by_cases gl0 : len0 ≤ 1048576
  case neg =>
    go_enter Try.func8, Try.ntmps8
    go_wp2
    go_ret
    exact ⟨rfl, Below.refl _ _⟩
  case pos =>
    have B := Below.refl w.heap.size w
    go_enter Try.func8, Try.ntmps8
    go_wp2_with fail
    refine (DrawFlagLinked_any _ _ _ _ h0 k0).mono ?_
    rintro e w1 ⟨n, A, c, fl, rfl, n1, n8, lf, lc, o, b1⟩
    have s1 := b1.size
    replace B := bel_trans B b1
    clear b1
    go_wp2_with fail
    refine (FlagLinked_any _ _ _ _ _ o.rd (by omega) rfl).mono ?_
    rintro e w2 ⟨Ag, cg, rfl, clg, _, _, g, b2⟩
    have s2 := b2.size
    replace B := bel_trans B b2
    replace o := o.below b2 (by omega)
    clear b2
    go_wp2_with fail
    refine (sFlagLinked_any _ _ _ _ _ o.rd (by omega) rfl).mono ?_
    rintro e w3 ⟨Av, cv, rfl, clv, v, b3⟩
    have s3 := b3.size
    replace B := bel_trans B b3
    replace o := o.below b3 (by omega)
    replace g := g.below b3 (by omega)
    clear b3
    have rl : (linkL n fl).length ≤ 1048592 := linkL_len _ _
    cases hok : flB n fl with
    | false =>
      have E := linkL_no hok
      rw [E] at g v rl clg clv ⊢
      clear E
      go_wp2_with fail
      refine (sameInts_any _ _ _ _ _ _ _ g.rd v.rd rl rl rfl rfl).mono ?_
      rintro e w4 ⟨rfl, b4⟩
      have s4 := b4.size
      replace B := bel_trans B b4
      replace o := o.below b4 (by omega)
      replace g := g.below b4 (by omega)
      replace v := v.below b4 (by omega)
      clear b4
      go_wp2_with fail
      refine (sameInts_any _ _ _ _ _ _ _ g.rd v.rd rl rl rfl rfl).mono ?_
      rintro e w5 ⟨rfl, b5⟩
      have s5 := b5.size
      replace B := bel_trans B b5
      replace o := o.below b5 (by omega)
      replace g := g.below b5 (by omega)
      replace v := v.below b5 (by omega)
      clear b5
      go_wp2
      go_ret
      exact ⟨rfl, B⟩
    | true =>
    have E := linkL_mk_n hok
    obtain ⟨N, rfl, n2, n7, hlen⟩ := flB_ok hok
    rw [E] at g v rl clg clv ⊢
    simp only [natL_length, Int.toNat_natCast] at g v rl clg clv ⊢
    have e00 : ((N : Int) == 0) = false := by simp; omega
    have e01 : ¬ N = 0 := by omega
    have hnb := nb_le n7
    have hnp := nb_pos n2 n7
    have HLn := Lib.hid hlen
    clear E hlen
    go_wp2_with fail
    refine (sameInts_any _ _ _ _ _ _ _ g.rd v.rd (by simp; omega) (by simp; omega) (by simp) (by simp)).mono ?_
    rintro e w4 ⟨rfl, b4⟩
    have s4 := b4.size
    replace B := bel_trans B b4
    replace o := o.below b4 (by omega)
    replace g := g.below b4 (by omega)
    replace v := v.below b4 (by omega)
    clear b4
    clear v
    go_wp2
    go_loopw [7] (fun i wr => ∃ k : Nat, k ≤ N ∧ i = .int .i64 k ∧ Below w4.heap.size w4 wr) (fun i _ => N - (intOf i).toNat)
    case atStart => exact ⟨0, Nat.zero_le _, rfl, Below.refl _ _⟩
    case round =>
      obtain ⟨i, hi, rfl, hb⟩ := hrel
      have hg := g.below hb (by omega)
      by_cases hlt : i < N
      · obtain ⟨l1, l2, l3⟩ := (link_laws (fl := fl) n7).1 i hlt
        obtain ⟨q1, f1, e1, _, c1⟩ := hg.rd.int_at (k := i) (by simpa using hlt)
        subst e1
        obtain ⟨q1', f1', e1, _, c2⟩ := hg.rd.int_at (k := lab N fl i) (by simpa using l2)
        injection e1 with e1
        injection e1 with e11 e12
        subst e11 e12
        rw [gi_natL _ hlt] at c1
        rw [gi_natL _ l2, l3] at c2
        have i1 : (i : Int) < (N : Int) := by omega
        have i2 : ((lab N fl i : Nat) : Int) < (N : Int) := by omega
        have d0 : decide ((i : Int) < (N : Int)) = true := by simpa using i1
        have d1 : decide ((i : Int) < ((lab N fl i : Nat) : Int)) = false := by simp; omega
        have d1' : decide (i < lab N fl i) = false := by simp; omega
        have d2 : lab N fl i ≤ i := l1
        have HL2 := Lib.hid (fun (j : Nat) (h1 : i < j) (h2 : j < N) (h3 : gb fl (idx N i j) = false) => (link_laws (fl := fl) n7).2 i j h1 h2 h3)
        clear l3
        go_wp2
        go_quiet (fail)
        go_wp2
        go_loopw [8] (fun j wr => ∃ q : Nat, i + 1 ≤ q ∧ q ≤ N ∧ j = .int .i64 q ∧ Below w4.heap.size w4 wr) (fun j _ => N - (intOf j).toNat)
        case atStart => exact ⟨i + 1, Nat.le_refl _, by omega, by go_num, below_drewN hb _⟩
        case round =>
          clear hg hb c1 c2
          obtain ⟨j, hj1, hj2, rfl, hb⟩ := hrel
          have hg := g.below hb (by omega)
          have hoo := o.below hb (by omega)
          by_cases hlt2 : j < N
          · have hx := (idx_at n7 (show i < j by omega) hlt2).1
            obtain ⟨q2, f2, e2, _, c3⟩ := hoo.rd.bool_at (k := idx N i j) (by rw [HLn.out]; exact hx)
            subst e2
            obtain ⟨q1', f1', e1, _, c1⟩ := hg.rd.int_at (k := i) (by simpa using hlt)
            injection e1 with e1
            injection e1 with e11 e12
            subst e11 e12
            obtain ⟨q1', f1', e1, _, c2⟩ := hg.rd.int_at (k := j) (by simpa using hlt2)
            injection e1 with e1
            injection e1 with e11 e12
            subst e11 e12
            rw [gi_natL _ hlt] at c1
            rw [gi_natL _ hlt2] at c2
            have i3 : ((idx N i j : Nat) : Int) < (fl.length : Int) := by rw [HLn.out]; omega
            have i4 : (j : Int) < (N : Int) := by omega
            have HQ := Lib.hid (quiet_of_w (v := .int .i64 ((idx N i j : Nat) : Int)) (fun w => by have := BaseIndex_any (N : Int) (i : Int) (j : Int) w; rwa [bi_mk n2 n7 hlt hlt2 (by omega), gk_lt (show i < j by omega)] at this))
            cases hgb : gb fl (idx N i j) with
            | true =>
              rw [hgb] at c3
              clear hgb
              generalize idx N i j = m at *
              go_wp2
              go_quiet ((go_at_call 31; exact HQ.out _))
              go_wp2
              go_roundw
              case rel => exact ⟨j + 1, by omega, by omega, by go_num, below_drewN hb _⟩
              case measure => simp [intOf]; omega
            | false =>
              rw [hgb] at c3
              rw [← HL2.out j (by omega) hlt2 hgb] at c2
              clear hgb
              generalize idx N i j = m at *
              go_wp2
              go_quiet ((go_at_call 31; exact HQ.out _))
              go_wp2
              go_roundw
              case rel => exact ⟨j + 1, by omega, by omega, by go_num, below_drewN hb _⟩
              case measure => simp [intOf]; omega
          · obtain rfl : j = N := by omega
            go_wp2
            go_roundw
            case rel => exact ⟨i + 1, by omega, by go_num, hb⟩
            case measure => simp [intOf]; omega
      · obtain rfl : i = N := by omega
        have d0 : decide ((i : Int) < (i : Int)) = false := by simp
        go_wp2
        go_ret
        exact ⟨rfl, bel_trans B hb⟩

set_option maxRecDepth 100000 in
theorem lifted (os : Os) (started : os.Started) (H : Type) (enc : TypeId × Value → H) :
    ReturnsInHanded {} Try.checked os 8 .any (Rows.fnLinkedSpec.pre6 enc Try.prog Try.f8 Rows.fnLinkedRow.domain false) (Rows.fnLinkedSpec.post enc Try.prog Try.f8 false true false false) := by
  refine returnsInHanded_of_change (C := Try.checked) own started (by kernel_rfl) Try.func8
    (ChangeSpec.witness6 (enc := enc) (C := Try.checked) false ⟨#[], #[.slice none 0 0], []⟩ 8 (by kernel_rfl) (by kernel_rfl) (by kernel_rfl) (by kernel_rfl)) ?_
  intro W base args ds gs before hval0 hW hcnd _
  have hval : ∀ (j : Nat) t v, Try.f8.params[j]? = some t → args[j]? = some v → Value.okWide Try.prog W .any base t v := hval0
  have hW' := hW
  obtain ⟨p, q, hA0, hV, rfl, hfz, hnd⟩ := hW
  have hA : DataW.TrodAll enc Try.prog W 0 (fun _ => true) true Try.f8.params.toList args.toList ds p := hA0
  rw [Try.params8] at hA hval
  obtain ⟨v0, vs0, d0, ds0, p0, q0, hargs, rfl, rfl, h0, r0⟩ := trodAll_cons hA
  obtain ⟨rfl, rfl, rfl⟩ := trodAll_nil r0
  obtain rfl : args = #[v0] := by cases args; simp_all
  obtain ⟨rfl, rfl⟩ := trodVars_none hV
  obtain ⟨a0, len0, cap0, rfl⟩ := okWide_slice Try.underlying24 (hval 0 24 v0 rfl rfl)
  have k0 := h0
  have lt0 : ∀ x ∈ p0, x.block < W.heap.size := by obtain ⟨m, hm⟩ := k0; exact DataW.trod_lt m _ _ _ hm
  obtain ⟨z0, n0, u0, f0, c0⟩ := in_ints Try.underlying24 Try.underlying5 (by kernel_rfl) h0
  have w0 := Rd.bytes u0 n0 f0
  clear hA0 hval0
  refine (walk W a0 len0 cap0 w0 c0).mono fun e W' ⟨he, bel⟩ => ?_
  subst he
  exact ⟨_, rfl, _, _, _, [], _, [], hW', trodAll_mk1 (shut_bool Try.underlying4 _), (trodAll_cons_mk (Below.trod laidOut (by kernel_rfl) (of_decide_eq_true (by kernel_rfl)) k0 bel lt0) trodAll_mk0), rfl, bel.frame _, fun h => by cases h⟩

theorem over : Rows.fnLinkedRow.holds Try.pinned (OpenSpec.ofChange Rows.fnLinkedSpec) :=
  OpenClaim.holds_of_wide 8 Try.f8 rfl rfl rfl rfl rfl rfl rfl ⟨rfl, rfl, rfl, rfl, rfl⟩ rfl rfl rfl rfl rfl (by kernel_rfl) Try.func8 (by kernel_rfl)
    (of_decide_eq_true (by kernel_rfl)) (by unfold Func.isWrapper; first | (rw [if_pos (by decide +kernel)]; kernel_rfl) | (rw [if_neg (by decide +kernel)]; exact ⟨rfl, rfl⟩))
    (fun os started H enc _ => lifted os started H enc)

theorem proved : Rows.FnLinkedSaid := over
#print axioms proved
end Go.Proofs.Ytopneihamefohaa.fnLinked
