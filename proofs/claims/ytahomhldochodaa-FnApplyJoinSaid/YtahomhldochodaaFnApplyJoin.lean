/- Gains that are applied one after the other are joined. For every input; each argument reads afterwards as it read before. -/
import Derived.Test.YtahomhldochodaaFrame
import Derived.Test.YtahomhldochodaaApplyA
import Derived.Test.YtahomhldochodaaApplyS
import Derived.Test.YtahomhldochodaaDrawApply
import Derived.Test.YtahomhldochodaaApplyL
import Derived.Test.YtahomhldochodaaJoin
namespace Go.Proofs.Ytahomhldochodaa.fnApplyJoin
open Go.ChangeShapes Go.WideShapes Go.ChangeAt Go.RowKit Go.Deep
set_option linter.unusedVariables false

set_option maxHeartbeats 4000000 in
set_option maxRecDepth 100000 in
theorem walk (w : World) (a0 : Option Addr) (len0 cap0 : Nat) (h0 : Bytes w a0 len0 w.heap.size) (k0 : len0 ≤ cap0) (a1 : Option Addr) (len1 cap1 : Nat) (h1 : Bytes w a1 len1 w.heap.size) (k1 : len1 ≤ cap1) :
    Calls Try.prog 9 #[.slice a0 len0 cap0, .slice a1 len1 cap1] w fun e w' => e = .returned (.bool true) ∧ Below w.heap.size w w' := by
  by_cases g0 : len0 ≤ 1048576
  case neg =>
    go_enter Try.func9, Try.ntmps9
    go_wp2
    go_ret
    exact ⟨rfl, Below.refl _ _⟩
  by_cases g1 : len1 ≤ 1048576
  case neg =>
    go_enter Try.func9, Try.ntmps9
    go_wp2
    go_ret
    exact ⟨rfl, Below.refl _ _⟩
  case pos =>
    have B := Below.refl w.heap.size w
    go_enter Try.func9, Try.ntmps9
    go_wp2_with fail
    refine (DrawGainApply_any _ _ _ _ h0 k0).mono ?_
    rintro e w1 ⟨N, A, A2, c, c2, as_, bs, rfl, n2, n6, la, lb, o, o2, b1⟩
    have s1 := b1.size
    replace B := bel_trans B b1
    clear b1
    go_wp2_with fail
    refine (GainApply_any _ _ _ _ _ _ _ _ o.rd o2.rd (by omega) (by omega) rfl rfl).mono ?_
    rintro e w2 ⟨Ag, cg, rfl, clg, g, b2⟩
    have s2 := b2.size
    replace B := bel_trans B b2
    replace o := o.below b2 (by omega)
    replace o2 := o2.below b2 (by omega)
    clear b2
    go_wp2_with fail
    refine (sGainApply_any _ _ _ _ _ _ _ _ o.rd o2.rd (by omega) (by omega) rfl rfl).mono ?_
    rintro e w3 ⟨Av, cv, rfl, clv, v, b3⟩
    have s3 := b3.size
    replace B := bel_trans B b3
    replace o := o.below b3 (by omega)
    replace o2 := o2.below b3 (by omega)
    replace g := g.below b3 (by omega)
    clear b3
    have rl : (gainApply (N : Int) as_ bs).1.length ≤ 1048592 := gainApply_len _ _ _
    cases hok : (gainApply (N : Int) as_ bs).2 with
    | false =>
      go_wp2_with fail
      refine (sameVis_any _ _ _ _ _ _ _ g.rd v.rd rl rl rfl rfl).mono ?_
      rintro e w4 ⟨rfl, b4⟩
      have s4 := b4.size
      replace B := bel_trans B b4
      replace o := o.below b4 (by omega)
      replace o2 := o2.below b4 (by omega)
      replace g := g.below b4 (by omega)
      replace v := v.below b4 (by omega)
      clear b4
      go_wp2_with fail
      refine (sameVis_any _ _ _ _ _ _ _ g.rd v.rd rl rl rfl rfl).mono ?_
      rintro e w5 ⟨rfl, b5⟩
      have s5 := b5.size
      replace B := bel_trans B b5
      replace o := o.below b5 (by omega)
      replace o2 := o2.below b5 (by omega)
      replace g := g.below b5 (by omega)
      replace v := v.below b5 (by omega)
      clear b5
      go_wp2
      go_ret
      exact ⟨rfl, B⟩
    | true =>
    go_wp2_with fail
    refine (sameVis_any _ _ _ _ _ _ _ g.rd v.rd rl rl rfl rfl).mono ?_
    rintro e w4 ⟨rfl, b4⟩
    have s4 := b4.size
    replace B := bel_trans B b4
    replace o := o.below b4 (by omega)
    replace o2 := o2.below b4 (by omega)
    replace g := g.below b4 (by omega)
    replace v := v.below b4 (by omega)
    clear b4
    clear v
    have hnb := nb_le (show N ≤ 7 by omega)
    obtain ⟨i0, hi, hz0, hz1, hz2⟩ := info_parts info_Vis
    go_wp2
    go_loopw [12, 13] (fun v i wr => ∃ k : Nat, k ≤ N ∧ i = .int .i64 k ∧ ApG w4 wr 38 v (fun i : Nat => ((1 + ((i : Int) + (len1 : Int)) % 3, ((i : Int) * 77 + (len1 : Int)) % 360) : Int × Int)) k) (fun _ i _ => N - (intOf i).toNat)
    case atStart => exact ⟨0, Nat.zero_le _, rfl, World.ownsRow_made w4 #[] 0 (Nat.le_refl _) (by simp [maxLen]) rfl, (Below.refl _ _).alloc (Nat.le_refl _) _⟩
    case round =>
      obtain ⟨k, hk, rfl, hap⟩ := hrel
      by_cases hlt : k < N
      · have m1 := Lib.hid (show k + 1 ≤ maxLen by simp [maxLen]; omega)
        have m2 := Lib.hid (show (k + 1) * 16 ≤ 140737488355328 by omega)
        have m3 := Lib.hid (base_a (o := .cells #[.int .i64 (1 + ((k : Int) + (len1 : Int)) % 3), .int .i64 (((k : Int) * 77 + (len1 : Int)) % 360)] 38) hap.2.size)
        have H1 := Lib.hid hap
        clear hap
        go_wp2_with (at_builtin; refine wpList_append_lies _ rfl _ _ 24 rfl w4.heap.size 38 i0 (.agg #[.int .i64 0, .int .i64 0]) 2 16 Try.underlying24 hi hz0 hz1 hz2 rfl (by decide) _ k (pairs (upto (fun i : Nat => ((1 + ((i : Int) + (len1 : Int)) % 3, ((i : Int) * 77 + (len1 : Int)) % 360) : Int × Int)) k)) rfl (H1.out.1.alloc _) ⟨wr.heap.size, 0, none⟩ 1 1 [.int .i64 (1 + ((k : Int) + (len1 : Int)) % 3), .int .i64 (((k : Int) * 77 + (len1 : Int)) % 360)] rfl rfl (news2 _ _ _ _) (one2 _ _) (by decide) m1.out m2.out m3.out _ rfl ?_; intro g cap w1 hown1 hgrow hat hlt1)
        go_roundw
        case rel => exact ⟨k + 1, by omega, by go_num, ApG.step (f := (fun i : Nat => ((1 + ((i : Int) + (len1 : Int)) % 3, ((i : Int) * 77 + (len1 : Int)) % 360) : Int × Int))) H1.out hown1 hgrow⟩
        case measure => simp [intOf]; omega
      · have ek : N = k := by omega
        subst ek
        obtain ⟨Ao, co, rfl, hco, _⟩ := own_shape hap.1
        have o3 := Ow.of_own hap.1
        have b5 := hap.2
        clear hap hlt hk
        obtain ⟨w5, rfl⟩ : ∃ wq : World, wq = wr := ⟨_, rfl⟩
        have s5 := b5.size
        replace B := bel_trans B b5
        replace o := o.below b5 (by omega)
        replace o2 := o2.below b5 (by omega)
        replace g := g.below b5 (by omega)
        clear b5
        generalize hU : upto (fun i : Nat => ((1 + ((i : Int) + (len1 : Int)) % 3, ((i : Int) * 77 + (len1 : Int)) % 360) : Int × Int)) N = U at *
        have hUl : U.length = N := by rw [← hU]; simp
        have HU := Lib.hid hUl
        clear hU hUl
        go_wp2_with fail
        refine (GainApply_any _ _ _ _ _ _ _ _ g.rd o3.rd rl (by rw [HU.out]; omega) rfl HU.out).mono ?_
        rintro e w6 ⟨Ax1', cx1', rfl, clx1', x1', b6⟩
        have s6 := b6.size
        replace B := bel_trans B b6
        replace o := o.below b6 (by omega)
        replace o2 := o2.below b6 (by omega)
        replace g := g.below b6 (by omega)
        replace o3 := o3.below b6 (by omega)
        clear b6
        go_wp2_with fail
        refine (GainJoin_any _ _ _ _ _ _ _ _ o2.rd o3.rd (by omega) (by rw [HU.out]; omega) rfl HU.out).mono ?_
        rintro e w7 ⟨Ay1', cy1', rfl, cly1', y1', b7⟩
        have s7 := b7.size
        replace B := bel_trans B b7
        replace o := o.below b7 (by omega)
        replace o2 := o2.below b7 (by omega)
        replace g := g.below b7 (by omega)
        replace o3 := o3.below b7 (by omega)
        replace x1' := x1'.below b7 (by omega)
        clear b7
        go_wp2_with fail
        refine (GainApply_any _ _ _ _ _ _ _ _ o.rd y1'.rd (by omega) (gainJoin_len _ _ _) rfl rfl).mono ?_
        rintro e w8 ⟨Az1', cz1', rfl, clz1', z1', b8⟩
        have s8 := b8.size
        replace B := bel_trans B b8
        replace o := o.below b8 (by omega)
        replace o2 := o2.below b8 (by omega)
        replace g := g.below b8 (by omega)
        replace o3 := o3.below b8 (by omega)
        replace x1' := x1'.below b8 (by omega)
        replace y1' := y1'.below b8 (by omega)
        clear b8
        cases hp : (gainApply (N : Int) (gainApply (N : Int) as_ bs).1 U).2 with
        | false =>
          go_wp2
          go_ret
          exact ⟨rfl, B⟩
        | true =>
        cases hq : (gainJoin (N : Int) bs U).2 with
        | false =>
          go_wp2
          go_ret
          exact ⟨rfl, B⟩
        | true =>
        have P1 := Lib.hid (apply_join hok hp hq)
        simp only [P1.out] at z1' clz1' ⊢
        go_wp2_with fail
        refine (sameVis_any _ _ _ _ _ _ _ x1'.rd z1'.rd (gainApply_len _ _ _) (gainApply_len _ _ _) rfl rfl).mono ?_
        rintro e w9 ⟨rfl, b9⟩
        have s9 := b9.size
        replace B := bel_trans B b9
        replace o := o.below b9 (by omega)
        replace o2 := o2.below b9 (by omega)
        replace g := g.below b9 (by omega)
        replace o3 := o3.below b9 (by omega)
        replace x1' := x1'.below b9 (by omega)
        replace y1' := y1'.below b9 (by omega)
        replace z1' := z1'.below b9 (by omega)
        clear b9
        rw [decide_eq_true rfl]
        go_wp2
        go_ret
        exact ⟨rfl, B⟩

set_option maxRecDepth 100000 in
theorem lifted (os : Os) (started : os.Started) (H : Type) (enc : TypeId × Value → H) :
    ReturnsInHanded {} Try.checked os 9 .any (Rows.fnApplyJoinSpec.pre6 enc Try.prog Try.f9 Rows.fnApplyJoinRow.domain false) (Rows.fnApplyJoinSpec.post enc Try.prog Try.f9 false true false false) := by
  refine returnsInHanded_of_change (C := Try.checked) own started (by kernel_rfl) Try.func9
    (ChangeSpec.witness6 (enc := enc) (C := Try.checked) false ⟨#[], #[.slice none 0 0, .slice none 0 0], []⟩ 8 (by kernel_rfl) (by kernel_rfl) (by kernel_rfl) (by kernel_rfl)) ?_
  intro W base args ds gs before hval0 hW hcnd _
  have hval : ∀ (j : Nat) t v, Try.f9.params[j]? = some t → args[j]? = some v → Value.okWide Try.prog W .any base t v := hval0
  have hW' := hW
  obtain ⟨p, q, hA0, hV, rfl, hfz, hnd⟩ := hW
  have hA : DataW.TrodAll enc Try.prog W 0 (fun _ => true) true Try.f9.params.toList args.toList ds p := hA0
  rw [Try.params9] at hA hval
  obtain ⟨v0, vs0, d0, ds0, p0, q0, hargs, rfl, rfl, h0, r0⟩ := trodAll_cons hA
  obtain ⟨v1, vs1, d1, ds1, p1, q1, rfl, rfl, rfl, h1, r1⟩ := trodAll_cons r0
  obtain ⟨rfl, rfl, rfl⟩ := trodAll_nil r1
  obtain rfl : args = #[v0, v1] := by cases args; simp_all
  obtain ⟨rfl, rfl⟩ := trodVars_none hV
  obtain ⟨a0, len0, cap0, rfl⟩ := okWide_slice Try.underlying31 (hval 0 31 v0 rfl rfl)
  have k0 := h0
  have lt0 : ∀ x ∈ p0, x.block < W.heap.size := by obtain ⟨m, hm⟩ := k0; exact DataW.trod_lt m _ _ _ hm
  obtain ⟨z0, n0, u0, f0, c0⟩ := in_ints Try.underlying31 Try.underlying5 (by kernel_rfl) h0
  have w0 := Rd.bytes u0 n0 f0
  obtain ⟨a1, len1, cap1, rfl⟩ := okWide_slice Try.underlying31 (hval 1 31 v1 rfl rfl)
  have k1 := h1
  have lt1 : ∀ x ∈ p1, x.block < W.heap.size := by obtain ⟨m, hm⟩ := k1; exact DataW.trod_lt m _ _ _ hm
  obtain ⟨z1, n1, u1, f1, c1⟩ := in_ints Try.underlying31 Try.underlying5 (by kernel_rfl) h1
  have w1 := Rd.bytes u1 n1 f1
  clear hA0 hval0
  refine (walk W a0 len0 cap0 w0 c0 a1 len1 cap1 w1 c1).mono fun e W' ⟨he, bel⟩ => ?_
  subst he
  exact ⟨_, rfl, _, _, _, [], _, [], hW', trodAll_mk1 (shut_bool Try.underlying4 _), (trodAll_cons_mk (Below.trod laidOut (by kernel_rfl) (of_decide_eq_true (by kernel_rfl)) k0 bel lt0) (trodAll_cons_mk (Below.trod laidOut (by kernel_rfl) (of_decide_eq_true (by kernel_rfl)) k1 bel lt1) trodAll_mk0)), rfl, bel.frame _, fun h => by cases h⟩

theorem over : Rows.fnApplyJoinRow.holds Try.pinned (OpenSpec.ofChange Rows.fnApplyJoinSpec) :=
  OpenClaim.holds_of_wide 9 Try.f9 rfl rfl rfl rfl rfl rfl rfl ⟨rfl, rfl, rfl, rfl, rfl⟩ rfl rfl rfl rfl rfl (by kernel_rfl) Try.func9 (by kernel_rfl)
    (of_decide_eq_true (by kernel_rfl)) (by unfold Func.isWrapper; first | (rw [if_pos (by decide +kernel)]; kernel_rfl) | (rw [if_neg (by decide +kernel)]; exact ⟨rfl, rfl⟩))
    (fun os started H enc _ => lifted os started H enc)

theorem proved : Rows.FnApplyJoinSaid := over
#print axioms proved
end Go.Proofs.Ytahomhldochodaa.fnApplyJoin
