/- A gain changes the baselines of its antenna alone. For every input; each argument reads afterwards as it read before. -/
import Derived.Test.YtahomhldochodaaFrame
import Derived.Test.YtahomhldochodaaApplyA
import Derived.Test.YtahomhldochodaaApplyS
import Derived.Test.YtahomhldochodaaDrawApply
import Derived.Test.YtahomhldochodaaApplyL
import Derived.Test.YtahomhldochodaaBasePair
namespace Go.Proofs.Ytahomhldochodaa.fnApplyOne
open Go.ChangeShapes Go.WideShapes Go.ChangeAt Go.RowKit Go.Deep
set_option linter.unusedVariables false

set_option maxHeartbeats 4000000 in
set_option maxRecDepth 100000 in
theorem walk (w : World) (a0 : Option Addr) (len0 cap0 : Nat) (h0 : Bytes w a0 len0 w.heap.size) (k0 : len0 ≤ cap0) (a1 : Option Addr) (len1 cap1 : Nat) (h1 : Bytes w a1 len1 w.heap.size) (k1 : len1 ≤ cap1) :
    Calls Try.prog 13 #[.slice a0 len0 cap0, .slice a1 len1 cap1] w fun e w' => e = .returned (.bool true) ∧ Below w.heap.size w w' := by
  by_cases gl0 : len0 ≤ 1048576
  case neg =>
    go_enter Try.func13, Try.ntmps13
    go_wp2
    go_ret
    exact ⟨rfl, Below.refl _ _⟩
  by_cases gl1 : len1 ≤ 1048576
  case neg =>
    go_enter Try.func13, Try.ntmps13
    go_wp2
    go_ret
    exact ⟨rfl, Below.refl _ _⟩
  case pos =>
    have B := Below.refl w.heap.size w
    go_enter Try.func13, Try.ntmps13
    go_wp2_with fail
    refine (DrawGainApply_any _ _ _ _ h0 k0).mono ?_
    rintro e w1 ⟨N, A, A2, c, c2, as_, bs, rfl, n2, n6, la, lb, o, o2, b1⟩
    have s1 := b1.size
    replace B := bel_trans B b1
    clear b1
    go_wp2_with fail
    refine (GainApply_any _ _ _ _ _ _ _ _ o.rd o2.rd (by omega) (by omega) rfl rfl).mono ?_
    rintro e w2 ⟨Ag, cg, rfl, clg, g, b2⟩
    have s2 := b2.size
    replace B := bel_trans B b2
    replace o := o.below b2 (by omega)
    replace o2 := o2.below b2 (by omega)
    clear b2
    go_wp2_with fail
    refine (sGainApply_any _ _ _ _ _ _ _ _ o.rd o2.rd (by omega) (by omega) rfl rfl).mono ?_
    rintro e w3 ⟨Av, cv, rfl, clv, v, b3⟩
    have s3 := b3.size
    replace B := bel_trans B b3
    replace o := o.below b3 (by omega)
    replace o2 := o2.below b3 (by omega)
    replace g := g.below b3 (by omega)
    clear b3
    have rl : (gainApply (N : Int) as_ bs).1.length ≤ 1048592 := gainApply_len _ _ _
    cases hok : (gainApply (N : Int) as_ bs).2 with
    | false =>
      go_wp2_with fail
      refine (sameVis_any _ _ _ _ _ _ _ g.rd v.rd rl rl rfl rfl).mono ?_
      rintro e w4 ⟨rfl, b4⟩
      have s4 := b4.size
      replace B := bel_trans B b4
      replace o := o.below b4 (by omega)
      replace o2 := o2.below b4 (by omega)
      replace g := g.below b4 (by omega)
      replace v := v.below b4 (by omega)
      clear b4
      go_wp2_with fail
      refine (sameVis_any _ _ _ _ _ _ _ g.rd v.rd rl rl rfl rfl).mono ?_
      rintro e w5 ⟨rfl, b5⟩
      have s5 := b5.size
      replace B := bel_trans B b5
      replace o := o.below b5 (by omega)
      replace o2 := o2.below b5 (by omega)
      replace g := g.below b5 (by omega)
      replace v := v.below b5 (by omega)
      clear b5
      go_wp2
      go_ret
      exact ⟨rfl, B⟩
    | true =>
    go_wp2_with fail
    refine (sameVis_any _ _ _ _ _ _ _ g.rd v.rd rl rl rfl rfl).mono ?_
    rintro e w4 ⟨rfl, b4⟩
    have s4 := b4.size
    replace B := bel_trans B b4
    replace o := o.below b4 (by omega)
    replace o2 := o2.below b4 (by omega)
    replace g := g.below b4 (by omega)
    replace v := v.below b4 (by omega)
    clear b4
    clear v
    obtain ⟨h1, h2, h3, hE⟩ := apply_ok hok
    have hN := vis_N h1
    have hnb := nb_le hN.2
    have LO := Lib.hid (show (gainApply (N : Int) as_ bs).1.length = nb N by rw [hE]; simp)
    have LB := Lib.hid (gainB_len h2)
    obtain ⟨a, ha⟩ : ∃ a : Nat, a = len1 % N := ⟨_, rfl⟩
    have han : a < N := by rw [ha]; exact Nat.mod_lt _ (by omega)
    have ek : (len1 : Int) % (N : Int) = (a : Int) := by rw [ha]; omega
    have ek2 : ((N : Int) == 0) = false := by simp; omega
    obtain ⟨x1, x2⟩ := apply_one hok han
    have PX := Lib.hid x1
    have PY := Lib.hid x2
    have LX := Lib.hid (show (gainApply (N : Int) as_ (bs.set a (1, 0))).1.length = nb N by rw [(apply_ok x1).2.2.2]; simp)
    clear ha x1 x2 hE h1 h2 h3
    obtain ⟨i0, hi, hz0, hz1, hz2⟩ := info_parts info_Vis
    have blb : 0 < bs.length := by rw [LB.out]; omega
    have bla : (a : Int) < (bs.length : Int) := by rw [LB.out]; omega
    obtain ⟨qb, fb, eb, hqb, _, _⟩ := o2.rd.pair_at (k := 0) blb
    subst eb
    have RO := Lib.hid (o2.rd.below ((Below.refl w4.heap.size w4).alloc (Nat.le_refl _) (.cells #[] 38)) (Nat.le_refl _))
    have m1 := Lib.hid (show 0 + bs.length ≤ maxLen by simp [maxLen]; omega)
    have m2 := Lib.hid (show (0 + bs.length) * 16 ≤ 140737488355328 by omega)
    have m3 := Lib.hid (show w4.heap.size ≤ (w4.alloc (.cells #[] 38)).heap.size by simp)
    have m4 := Lib.hid (World.ownsRow_made (e := 38) (size := 2) w4 #[] 0 (Nat.le_refl _) (by simp [maxLen]) rfl)
    have m5 := Lib.hid (pairs_one bs)
    go_wp2_with (
     at_builtin
     refine wpList_append_lies _ rfl _ _ 24 rfl w4.heap.size 38 i0 (.agg #[.int .i64 0, .int .i64 0]) 2 16 Try.underlying24 hi hz0 hz1 hz2 rfl (by decide) _ 0 [] rfl m4.out ⟨qb, fb, none⟩ bs.length c2 (pairs bs) rfl (by rw [pairs_length, Nat.mul_comm]) (RO.out.olds _ rfl) m5.out blb m1.out m2.out m3.out _ rfl ?_
     intro gq cap w5 hown1 hgrow hat hlt1
     have b5 : Below w4.heap.size w4 w5 := bel_app (Below.refl _ _) hgrow (fun q hq => by cases hq; exact Nat.le_refl _)
     have o3 : Ow w5 38 w4.heap.size w5.heap.size (some ⟨gq, 0, none⟩) (pairs bs) := Ow.of_own (by simpa using hown1)
     clear hown1 hgrow hat hlt1 RO m1 m2 m3 m4 m5
     have s5 := b5.size
     replace B := bel_trans B b5
     replace o := o.below b5 (by omega)
     replace o2 := o2.below b5 (by omega)
     replace g := g.below b5 (by omega)
     clear b5
     obtain ⟨gq', of', e', r1, r2, r3, cc1, cc2, ff1, ff2, hset, _, _⟩ := o3.pair_at (k := a) (by rw [LB.out]; exact han)
     injection e' with e'
     injection e' with e1' e2'
     subst e1' e2'
     have o4 := hset 1 0
     have on : Only w5 ((w5.setCell ⟨gq, 0 + a * 2, none⟩ (.int .i64 1)).setCell ⟨gq, 0 + a * 2 + 1, none⟩ (.int .i64 0)) w4.heap.size w5.heap.size := ((Only.refl _ _ _).setCell r1 r2 _).setCell r1 r2 _
     simp only [Nat.zero_add] at cc1 cc2 ff1 ff2 o4 on
     have B_ := Lib.hid (on.below B (by omega) (Nat.le_refl _))
     have o_ := Lib.hid (o.only on (.inl (by omega)))
     have g_ := Lib.hid (g.only on (.inl (by omega)))
     have o4_ := Lib.hid o4
     clear o4 on hset o o2 g o3 B)
    have o := o_.out
    have g := g_.out
    have o3 := o4_.out
    have B := B_.out
    clear o_ g_ o4_ B_ cc1 cc2 ff1 ff2
    have hsz : ((w5.setCell ⟨gq, a * 2, none⟩ (.int .i64 1)).setCell ⟨gq, a * 2 + 1, none⟩ (.int .i64 0)).heap.size = w5.heap.size := by simp [World.setCell]
    obtain ⟨w6, hW⟩ : ∃ W : World, W = (w5.setCell ⟨gq, a * 2, none⟩ (.int .i64 1)).setCell ⟨gq, a * 2 + 1, none⟩ (.int .i64 0) := ⟨_, rfl⟩
    rw [← hW] at o g o3 B hsz ⊢
    have hsz1 := Nat.le_of_eq hsz
    have hsz2 := Nat.le_of_eq hsz.symm
    clear hW hsz
    refine (GainApply_any _ _ _ _ _ as_ (bs.set a (1, 0)) _ o.rd o3.rd (by omega) (by simp; omega) rfl (by simp)).mono ?_
    rintro e w7 ⟨Ax1', cx1', rfl, clx1', x1', b7⟩
    have s7 := b7.size
    replace B := bel_trans B b7
    replace o := o.below b7 (by omega)
    replace g := g.below b7 (by omega)
    replace o3 := o3.below b7 (by omega)
    clear b7
    clear o
    clear o3
    rw [PX.out]
    clear clx1'
    go_wp2
    go_loopw [16] (fun i wr => ∃ k : Nat, k ≤ nb N ∧ i = .int .i64 k ∧ Below w7.heap.size w7 wr) (fun i _ => nb N - (intOf i).toNat)
    case atStart => exact ⟨0, Nat.zero_le _, rfl, Below.refl _ _⟩
    case round =>
      obtain ⟨k, hk, rfl, hb⟩ := hrel
      by_cases hlt : k < nb N
      · have i1 : (k : Int) < ((gainApply (N : Int) as_ bs).1.length : Int) := by rw [LO.out]; omega
        have i2 : (k : Int) < ((gainApply (N : Int) as_ (bs.set a (1, 0))).1.length : Int) := by rw [LX.out]; omega
        have d1 : decide ((k : Int) < ((gainApply (N : Int) as_ bs).1.length : Int)) = true := by simpa using i1
        go_wp2_with fail
        refine (BasePair_yes _ _ _ hN.1 hN.2 hlt).mono ?_
        rintro e wb ⟨rfl, bb⟩
        have hb2 := bel_trans hb bb
        clear hb bb
        have hx := x1'.below hb2 (Nat.le_refl _)
        have hg := g.below hb2 (by omega)
        obtain ⟨q1, f1, e1, hq1, c1, c2'⟩ := hx.rd.pair_at (k := k) (by rw [LX.out]; exact hlt)
        subst e1
        obtain ⟨q2, f2, e2, hq2, c3, c4⟩ := hg.rd.pair_at (k := k) (by rw [LO.out]; exact hlt)
        subst e2
        have nl : (((gainApply (N : Int) as_ (bs.set a (1, 0))).1.length : Int) != ((gainApply (N : Int) as_ bs).1.length : Int)) = false := by rw [LX.out, LO.out]; simp
        clear d1 hx hg
        by_cases hx1 : b1 N k = a
        · have n1 : (((b1 N k : Nat) : Int) != (a : Int)) = false := by simp [hx1]
          clear hx1
          go_wp2
          go_quiet (fail)
          go_wp2
          go_roundw
          case rel => exact ⟨k + 1, by omega, by go_num, below_drewN hb2 _⟩
          case measure => simp [intOf]; omega
        · have n1 : (((b1 N k : Nat) : Int) != (a : Int)) = true := by simp; omega
          by_cases hx2 : b2 N k = a
          · have n2' : (((b2 N k : Nat) : Int) != (a : Int)) = false := by simp [hx2]
            clear hx1 hx2
            go_wp2
            go_quiet (fail)
            go_wp2
            go_roundw
            case rel => exact ⟨k + 1, by omega, by go_num, below_drewN hb2 _⟩
            case measure => simp [intOf]; omega
          · have n2' : (((b2 N k : Nat) : Int) != (a : Int)) = true := by simp; omega
            obtain ⟨y1, y2⟩ := PY.out k hlt hx1 hx2
            rw [y1] at c1
            rw [y2] at c2'
            have heq := eqInVis (g1 (gainApply (N : Int) as_ bs).1 k) (g2 (gainApply (N : Int) as_ bs).1 k) (g1 (gainApply (N : Int) as_ bs).1 k) (g2 (gainApply (N : Int) as_ bs).1 k)
            rw [decide_eq_true ⟨rfl, rfl⟩] at heq
            have hgd := guardVis .neq (.tmp 122) (.tmp 126) #[.int .i64 (g1 (gainApply (N : Int) as_ bs).1 k), .int .i64 (g2 (gainApply (N : Int) as_ bs).1 k)] #[.int .i64 (g1 (gainApply (N : Int) as_ bs).1 k), .int .i64 (g2 (gainApply (N : Int) as_ bs).1 k)]
            clear hx1 hx2 y1 y2
            go_wp2
            go_quiet (fail)
            go_wp2
            go_roundw
            case rel => exact ⟨k + 1, by omega, by go_num, below_drewN hb2 _⟩
            case measure => simp [intOf]; omega
      · have d1 : (gainApply (N : Int) as_ bs).1.length ≤ k := by rw [LO.out]; omega
        go_wp2
        go_ret
        exact ⟨rfl, bel_trans B hb⟩

set_option maxRecDepth 100000 in
theorem lifted (os : Os) (started : os.Started) (H : Type) (enc : TypeId × Value → H) :
    ReturnsInHanded {} Try.checked os 13 .any (Rows.fnApplyOneSpec.pre6 enc Try.prog Try.f13 Rows.fnApplyOneRow.domain false) (Rows.fnApplyOneSpec.post enc Try.prog Try.f13 false true false false) := by
  refine returnsInHanded_of_change (C := Try.checked) own started (by kernel_rfl) Try.func13
    (ChangeSpec.witness6 (enc := enc) (C := Try.checked) false ⟨#[], #[.slice none 0 0, .slice none 0 0], []⟩ 8 (by kernel_rfl) (by kernel_rfl) (by kernel_rfl) (by kernel_rfl)) ?_
  intro W base args ds gs before hval0 hW hcnd _
  have hval : ∀ (j : Nat) t v, Try.f13.params[j]? = some t → args[j]? = some v → Value.okWide Try.prog W .any base t v := hval0
  have hW' := hW
  obtain ⟨p, q, hA0, hV, rfl, hfz, hnd⟩ := hW
  have hA : DataW.TrodAll enc Try.prog W 0 (fun _ => true) true Try.f13.params.toList args.toList ds p := hA0
  rw [Try.params13] at hA hval
  obtain ⟨v0, vs0, d0, ds0, p0, q0, hargs, rfl, rfl, h0, r0⟩ := trodAll_cons hA
  obtain ⟨v1, vs1, d1, ds1, p1, q1, rfl, rfl, rfl, h1, r1⟩ := trodAll_cons r0
  obtain ⟨rfl, rfl, rfl⟩ := trodAll_nil r1
  obtain rfl : args = #[v0, v1] := by cases args; simp_all
  obtain ⟨rfl, rfl⟩ := trodVars_none hV
  obtain ⟨a0, len0, cap0, rfl⟩ := okWide_slice Try.underlying31 (hval 0 31 v0 rfl rfl)
  have k0 := h0
  have lt0 : ∀ x ∈ p0, x.block < W.heap.size := by obtain ⟨m, hm⟩ := k0; exact DataW.trod_lt m _ _ _ hm
  obtain ⟨z0, n0, u0, f0, c0⟩ := in_ints Try.underlying31 Try.underlying5 (by kernel_rfl) h0
  have w0 := Rd.bytes u0 n0 f0
  obtain ⟨a1, len1, cap1, rfl⟩ := okWide_slice Try.underlying31 (hval 1 31 v1 rfl rfl)
  have k1 := h1
  have lt1 : ∀ x ∈ p1, x.block < W.heap.size := by obtain ⟨m, hm⟩ := k1; exact DataW.trod_lt m _ _ _ hm
  obtain ⟨z1, n1, u1, f1, c1⟩ := in_ints Try.underlying31 Try.underlying5 (by kernel_rfl) h1
  have w1 := Rd.bytes u1 n1 f1
  clear hA0 hval0
  refine (walk W a0 len0 cap0 w0 c0 a1 len1 cap1 w1 c1).mono fun e W' ⟨he, bel⟩ => ?_
  subst he
  exact ⟨_, rfl, _, _, _, [], _, [], hW', trodAll_mk1 (shut_bool Try.underlying4 _), (trodAll_cons_mk (Below.trod laidOut (by kernel_rfl) (of_decide_eq_true (by kernel_rfl)) k0 bel lt0) (trodAll_cons_mk (Below.trod laidOut (by kernel_rfl) (of_decide_eq_true (by kernel_rfl)) k1 bel lt1) trodAll_mk0)), rfl, bel.frame _, fun h => by cases h⟩

theorem over : Rows.fnApplyOneRow.holds Try.pinned (OpenSpec.ofChange Rows.fnApplyOneSpec) :=
  OpenClaim.holds_of_wide 13 Try.f13 rfl rfl rfl rfl rfl rfl rfl ⟨rfl, rfl, rfl, rfl, rfl⟩ rfl rfl rfl rfl rfl (by kernel_rfl) Try.func13 (by kernel_rfl)
    (of_decide_eq_true (by kernel_rfl)) (by unfold Func.isWrapper; first | (rw [if_pos (by decide +kernel)]; kernel_rfl) | (rw [if_neg (by decide +kernel)]; exact ⟨rfl, rfl⟩))
    (fun os started H enc _ => lifted os started H enc)

theorem proved : Rows.FnApplyOneSaid := over
#print axioms proved
end Go.Proofs.Ytahomhldochodaa.fnApplyOne
