/- Bad baselines link nothing. For every input; each argument reads afterwards as it read before. -/
import Derived.Test.YtopneihamefohaaFrame
import Derived.Test.YtopneihamefohaaFlagT
namespace Go.Proofs.Ytopneihamefohaa.fnLinkedLess
open Go.ChangeShapes Go.WideShapes Go.ChangeAt Go.RowKit Go.Deep
set_option linter.unusedVariables false

set_option maxHeartbeats 3000000 in
set_option maxRecDepth 100000 in
theorem walk (w : World) (a0 : Option Addr) (len0 cap0 : Nat) (h0 : Bytes w a0 len0 w.heap.size) (k0 : len0 ≤ cap0) (a1 : Option Addr) (len1 cap1 : Nat) (h1 : Bytes w a1 len1 w.heap.size) (k1 : len1 ≤ cap1) :
    Calls Try.prog 6 #[.slice a0 len0 cap0, .slice a1 len1 cap1] w fun e w' => e = .returned (.bool true) ∧ Below w.heap.size w w' := by
  by_cases gl0 : len0 ≤ 1048576
  case neg =>
    go_enter Try.func6, Try.ntmps6
    go_wp2
    go_ret
    exact ⟨rfl, Below.refl _ _⟩
  by_cases gl1 : len1 ≤ 1048576
  case neg =>
    go_enter Try.func6, Try.ntmps6
    go_wp2
    go_ret
    exact ⟨rfl, Below.refl _ _⟩
  case pos =>
    have B := Below.refl w.heap.size w
    go_enter Try.func6, Try.ntmps6
    go_wp2_with fail
    refine (DrawFlagLinked_any _ _ _ _ h0 k0).mono ?_
    rintro e w1 ⟨n, A, c, fl, rfl, n1, n8, lf, lc, o, b1⟩
    have s1 := b1.size
    replace B := bel_trans B b1
    clear b1
    go_wp2_with fail
    refine (FlagLinked_any _ _ _ _ _ o.rd (by omega) rfl).mono ?_
    rintro e w2 ⟨Ag, cg, rfl, clg, _, _, g, b2⟩
    have s2 := b2.size
    replace B := bel_trans B b2
    replace o := o.below b2 (by omega)
    clear b2
    go_wp2_with fail
    refine (sFlagLinked_any _ _ _ _ _ o.rd (by omega) rfl).mono ?_
    rintro e w3 ⟨Av, cv, rfl, clv, v, b3⟩
    have s3 := b3.size
    replace B := bel_trans B b3
    replace o := o.below b3 (by omega)
    replace g := g.below b3 (by omega)
    clear b3
    have rl : (linkL n fl).length ≤ 1048592 := linkL_len _ _
    cases hok : flB n fl with
    | false =>
      have E := linkL_no hok
      rw [E] at g v rl clg clv ⊢
      clear E
      go_wp2_with fail
      refine (sameInts_any _ _ _ _ _ _ _ g.rd v.rd rl rl rfl rfl).mono ?_
      rintro e w4 ⟨rfl, b4⟩
      have s4 := b4.size
      replace B := bel_trans B b4
      replace o := o.below b4 (by omega)
      replace g := g.below b4 (by omega)
      replace v := v.below b4 (by omega)
      clear b4
      go_wp2_with fail
      refine (sameInts_any _ _ _ _ _ _ _ g.rd v.rd rl rl rfl rfl).mono ?_
      rintro e w5 ⟨rfl, b5⟩
      have s5 := b5.size
      replace B := bel_trans B b5
      replace o := o.below b5 (by omega)
      replace g := g.below b5 (by omega)
      replace v := v.below b5 (by omega)
      clear b5
      go_wp2
      go_ret
      exact ⟨rfl, B⟩
    | true =>
    have E := linkL_mk_n hok
    obtain ⟨N, rfl, n2, n7, hlen⟩ := flB_ok hok
    rw [E] at g v rl clg clv ⊢
    simp only [natL_length, Int.toNat_natCast] at g v rl clg clv ⊢
    have e00 : ((N : Int) == 0) = false := by simp; omega
    have e01 : ¬ N = 0 := by omega
    have hnb := nb_le n7
    have hnp := nb_pos n2 n7
    have HLn := Lib.hid hlen
    clear E hlen
    go_wp2_with fail
    refine (sameInts_any _ _ _ _ _ _ _ g.rd v.rd (by simp; omega) (by simp; omega) (by simp) (by simp)).mono ?_
    rintro e w4 ⟨rfl, b4⟩
    have s4 := b4.size
    replace B := bel_trans B b4
    replace o := o.below b4 (by omega)
    replace g := g.below b4 (by omega)
    replace v := v.below b4 (by omega)
    clear b4
    clear v
    obtain ⟨a, ha⟩ : ∃ a : Nat, a = len1 % nb N := ⟨_, rfl⟩
    have han : a < nb N := by rw [ha]; exact Nat.mod_lt _ (by omega)
    have ek : (len1 : Int) % (fl.length : Int) = (a : Int) := by rw [ha, HLn.out]; simp
    have ek2 : ((fl.length : Int) == 0) = false := by rw [HLn.out]; simp; omega
    have ek3 : ¬ (fl.length : Int) = 0 := by rw [HLn.out]; omega
    have ek4 : ¬ fl.length = 0 := by rw [HLn.out]; omega
    have ek5 : ¬ fl = [] := fun e => by rw [e] at ek4; simp at ek4
    clear ha
    obtain ⟨i0, hi, hz0, hz1, hz2⟩ := info_parts info_bool
    have blb : 0 < fl.length := by rw [HLn.out]; omega
    have bla : (a : Int) < (fl.length : Int) := by rw [HLn.out]; omega
    obtain ⟨qb, fb, eb, hqb, _⟩ := o.rd.bool_at (k := 0) blb
    subst eb
    have RO := Lib.hid (o.rd.below ((Below.refl w4.heap.size w4).alloc (Nat.le_refl _) (.cells #[] 4)) (Nat.le_refl _))
    have m1 := Lib.hid (show 0 + fl.length ≤ maxLen by simp [maxLen]; omega)
    have m2 := Lib.hid (show (0 + fl.length) * 1 ≤ 140737488355328 by omega)
    have m3 := Lib.hid (show w4.heap.size ≤ (w4.alloc (.cells #[] 4)).heap.size by simp)
    have m4 := Lib.hid (World.ownsRow_made (e := 4) (size := 1) w4 #[] 0 (Nat.le_refl _) (by simp [maxLen]) rfl)
    have m5 := Lib.hid (bools_one fl)
    go_wp2_with (
     at_builtin
     refine wpList_append_lies _ rfl _ _ 27 rfl w4.heap.size 4 i0 (.bool false) 1 1 Try.underlying27 hi hz0 hz1 hz2 rfl (by decide) _ 0 [] rfl m4.out ⟨qb, fb, none⟩ fl.length c (bools fl) rfl (by simp) (RO.out.olds _ rfl) m5.out blb m1.out m2.out m3.out _ rfl ?_
     intro gq cap w5 hown1 hgrow hat hlt1
     have b5 : Below w4.heap.size w4 w5 := bel_app (Below.refl _ _) hgrow (fun q hq => by cases hq; exact Nat.le_refl _)
     have o3 : Ow w5 4 w4.heap.size w5.heap.size (some ⟨gq, 0, none⟩) (bools fl) := Ow.of_own (by simpa using hown1)
     clear hown1 hgrow hat hlt1 RO m1 m2 m3 m4 m5
     have s5 := b5.size
     replace B := bel_trans B b5
     replace o := o.below b5 (by omega)
     replace g := g.below b5 (by omega)
     clear b5
     obtain ⟨gq', of', e', r1, r2, r3, cc1, ff1, hset⟩ := o3.cell_at (k := a) (by simpa using (by omega : a < fl.length))
     injection e' with e'
     injection e' with e1' e2'
     subst e1' e2'
     have o4 := hset (.bool true)
     rw [bools_set] at o4
     have on : Only w5 (w5.setCell ⟨gq, 0 + a, none⟩ (.bool true)) w4.heap.size w5.heap.size := (Only.refl _ _ _).setCell r1 r2 _
     rw [bools_get (by omega)] at cc1
     simp only [Nat.zero_add] at cc1 ff1 o4 on
     have B_ := Lib.hid (on.below B (by omega) (Nat.le_refl _))
     have o_ := Lib.hid (o.only on (.inl (by omega)))
     have g_ := Lib.hid (g.only on (.inl (by omega)))
     have o4_ := Lib.hid o4
     clear o4 on hset o g o3 B)
    have o := o_.out
    have g := g_.out
    have o3 := o4_.out
    have B := B_.out
    clear o_ g_ o4_ B_ cc1 ff1
    have hsz : (w5.setCell ⟨gq, a, none⟩ (.bool true)).heap.size = w5.heap.size := by simp [World.setCell]
    obtain ⟨w6, hW⟩ : ∃ W : World, W = w5.setCell ⟨gq, a, none⟩ (.bool true) := ⟨_, rfl⟩
    rw [← hW] at o g o3 B hsz ⊢
    have hsz1 := Nat.le_of_eq hsz
    have hsz2 := Nat.le_of_eq hsz.symm
    have HSZ := Lib.hid hsz
    clear hW hsz ek ek2 ek3 ek4 ek5
    have ST := Lib.hid (show TwoB w6 ((w6.alloc (.cells #[] 4)).alloc (.cells #[] 4)) (.slice (some ⟨w5.heap.size, 0, none⟩) 0 0) (.slice (some ⟨w5.heap.size + 1, 0, none⟩) 0 0) 0 0 by rw [← HSZ.out]; exact TwoB.start w6)
    go_loopw [10, 11, 12] (fun v u i wr => ∃ q : Nat, q ≤ fl.length ∧ i = .int .i64 q ∧ TwoB w6 wr v u q q) (fun _ _ i _ => fl.length - (intOf i).toNat)
    case atStart => exact ⟨0, Nat.zero_le _, rfl, ST.out⟩
    case round =>
      clear ST
      obtain ⟨q, hq, rfl, hT⟩ := hrel
      by_cases hlt : q < fl.length
      · have H1 := Lib.hid hT
        clear hT
        have d0 : decide ((q : Int) < (fl.length : Int)) = true := by simp; omega
        have m1 := Lib.hid (show q + 1 ≤ maxLen by simp [maxLen]; omega)
        have m2 := Lib.hid (show (q + 1) * 1 ≤ 140737488355328 by omega)
        have m3 := Lib.hid (base_a (o := .cells #[.bool true] 4) H1.out.2.2.2.size)
        go_wp2_with (first
          | (at_builtin; refine wpList_append_lies _ rfl (.tmp 66) (.tmp 67) 27 rfl w6.heap.size 4 i0 (.bool false) 1 1 Try.underlying27 hi hz0 hz1 hz2 rfl (by decide) _ q (bools (List.replicate q true)) rfl (H1.out.1.alloc _) ⟨wr.heap.size, 0, none⟩ 1 1 [.bool true] rfl rfl (news_a _ _ _) (one_bool _) (by decide) m1.out m2.out m3.out _ rfl ?_; intro g1 cap1' wa hown1 hgrow1 hat1 hlt1; have H2 := Lib.hid (H1.out.app1 hown1 hgrow1 hat1); have m4 := Lib.hid (base_a (o := .cells #[.bool false] 4) H2.out.2.2.2.size); clear H1 hown1 hgrow1 hat1 hlt1)
          | (at_builtin; refine wpList_append_lies _ rfl (.tmp 69) (.tmp 70) 27 rfl w6.heap.size 4 i0 (.bool false) 1 1 Try.underlying27 hi hz0 hz1 hz2 rfl (by decide) _ q (bools (List.replicate q false)) rfl (H2.out.2.1.alloc _) ⟨wa.heap.size, 0, none⟩ 1 1 [.bool false] rfl rfl (news_a _ _ _) (one_bool _) (by decide) m1.out m2.out m4.out _ rfl ?_; intro g2 cap2' wb hown2 hgrow2 hat2 hlt2; have H3 := Lib.hid (H2.out.app2 hown2 hgrow2 hat2); clear H2 hown2 hgrow2 hat2 hlt2))
        go_roundw
        case rel => exact ⟨q + 1, by omega, by go_num, H3.out⟩
        case measure => simp [intOf]; omega
      · obtain rfl : q = fl.length := by omega
        obtain ⟨Ay, cy, rfl, hcy, _⟩ := own_shape hT.1
        obtain ⟨Az, cz, rfl, hcz, _⟩ := own_shape hT.2.1
        have oy := Ow.of_own hT.1
        have oz := Ow.of_own hT.2.1
        have b7 := hT.2.2.2
        clear hT hlt hq
        obtain ⟨w7, rfl⟩ : ∃ wq : World, wq = wr := ⟨_, rfl⟩
        rw [HLn.out] at oy oz
        have s7 := b7.size
        replace B := bel_trans B b7
        replace o := o.below b7 (by omega)
        replace g := g.below b7 (by omega)
        replace o3 := o3.below b7 (by omega)
        clear b7
        go_wp2_with fail
        refine (FlagLinked_any _ _ _ _ _ o3.rd (by simp; omega) (by simp)).mono ?_
        rintro e w8 ⟨A1, c1, rfl, cl1, _, _, g1, b8⟩
        have s8 := b8.size
        replace B := bel_trans B b8
        replace o := o.below b8 (by omega)
        replace g := g.below b8 (by omega)
        replace o3 := o3.below b8 (by omega)
        replace oy := oy.below b8 (by omega)
        replace oz := oz.below b8 (by omega)
        clear b8
        go_wp2_with fail
        refine (FlagLinked_any _ _ _ _ _ oy.rd (by simp; omega) (by rw [List.length_replicate]; exact HLn.out.symm)).mono ?_
        rintro e w9 ⟨A2, c2, rfl, cl2, _, _, g2, b9⟩
        have s9 := b9.size
        replace B := bel_trans B b9
        replace o := o.below b9 (by omega)
        replace g := g.below b9 (by omega)
        replace o3 := o3.below b9 (by omega)
        replace oy := oy.below b9 (by omega)
        replace oz := oz.below b9 (by omega)
        replace g1 := g1.below b9 (by omega)
        clear b9
        go_wp2_with fail
        refine (FlagLinked_any _ _ _ _ _ oz.rd (by simp; omega) (by rw [List.length_replicate]; exact HLn.out.symm)).mono ?_
        rintro e w10 ⟨A3, c3, rfl, cl3, _, _, g3, b10⟩
        have s10 := b10.size
        replace B := bel_trans B b10
        replace o := o.below b10 (by omega)
        replace g := g.below b10 (by omega)
        replace o3 := o3.below b10 (by omega)
        replace oy := oy.below b10 (by omega)
        replace oz := oz.below b10 (by omega)
        replace g1 := g1.below b10 (by omega)
        replace g2 := g2.below b10 (by omega)
        clear b10
        have E1 := linkL_mk_n (flB_mk (fl := fl.set a true) n2 n7 (by rw [List.length_set]; exact HLn.out))
        have E2 := linkL_mk_n (flB_rep n2 n7 true)
        have E3 := linkL_mk_n (flB_rep n2 n7 false)
        rw [E1] at g1 cl1 ⊢
        rw [E2] at g2 cl2 ⊢
        rw [E3] at g3 cl3 ⊢
        simp only [natL_length, Int.toNat_natCast] at g1 g2 g3 cl1 cl2 cl3 ⊢
        clear E1 E2 E3 o3 oy oz o
        go_wp2
        go_loopw [16] (fun i wr => ∃ q : Nat, q ≤ N ∧ i = .int .i64 q ∧ Below w10.heap.size w10 wr) (fun i _ => N - (intOf i).toNat)
        case atStart => exact ⟨0, Nat.zero_le _, rfl, Below.refl _ _⟩
        case round =>
          obtain ⟨i, hi', rfl, hb⟩ := hrel
          by_cases hlt : i < N
          · have i1 : (i : Int) < (N : Int) := by omega
            have d0 : decide ((i : Int) < (N : Int)) = true := by simpa using i1
            obtain ⟨p1, f1, e1, _, x1⟩ := (g1.below hb (by omega)).rd.int_at (k := i) (by simpa using hlt)
            subst e1
            obtain ⟨p2, f2, e2, _, x2⟩ := (g2.below hb (by omega)).rd.int_at (k := i) (by simpa using hlt)
            subst e2
            obtain ⟨p3, f3, e3, _, x3⟩ := (g3.below hb (by omega)).rd.int_at (k := i) (by simpa using hlt)
            subst e3
            obtain ⟨p4, f4, e4, _, x4⟩ := (g.below hb (by omega)).rd.int_at (k := i) (by simpa using hlt)
            subst e4
            rw [gi_natL _ hlt] at x1 x2 x3 x4
            rw [lab_all_rep] at x2
            rw [lab_none n7 (gb_rep _) hlt] at x3
            have hle := link_less (fl := fl) (k := a) n7 (by rw [HLn.out]; exact han) hlt
            have d1 : decide (((lab N (fl.set a true) i : Nat) : Int) < ((lab N fl i : Nat) : Int)) = false := by simp; omega
            have d2 : lab N fl i ≤ lab N (fl.set a true) i := hle
            simp only [Int.natCast_zero] at x3
            go_wp2
            go_quiet (fail)
            go_wp2
            go_roundw
            case rel => exact ⟨i + 1, by omega, by go_num, below_drewN hb _⟩
            case measure => simp [intOf]; omega
          · obtain rfl : i = N := by omega
            have d0 : decide ((i : Int) < (i : Int)) = false := by simp
            go_wp2
            go_ret
            exact ⟨rfl, bel_trans B hb⟩

set_option maxRecDepth 100000 in
theorem lifted (os : Os) (started : os.Started) (H : Type) (enc : TypeId × Value → H) :
    ReturnsInHanded {} Try.checked os 6 .any (Rows.fnLinkedLessSpec.pre6 enc Try.prog Try.f6 Rows.fnLinkedLessRow.domain false) (Rows.fnLinkedLessSpec.post enc Try.prog Try.f6 false true false false) := by
  refine returnsInHanded_of_change (C := Try.checked) own started (by kernel_rfl) Try.func6
    (ChangeSpec.witness6 (enc := enc) (C := Try.checked) false ⟨#[], #[.slice none 0 0, .slice none 0 0], []⟩ 8 (by kernel_rfl) (by kernel_rfl) (by kernel_rfl) (by kernel_rfl)) ?_
  intro W base args ds gs before hval0 hW hcnd _
  have hval : ∀ (j : Nat) t v, Try.f6.params[j]? = some t → args[j]? = some v → Value.okWide Try.prog W .any base t v := hval0
  have hW' := hW
  obtain ⟨p, q, hA0, hV, rfl, hfz, hnd⟩ := hW
  have hA : DataW.TrodAll enc Try.prog W 0 (fun _ => true) true Try.f6.params.toList args.toList ds p := hA0
  rw [Try.params6] at hA hval
  obtain ⟨v0, vs0, d0, ds0, p0, q0, hargs, rfl, rfl, h0, r0⟩ := trodAll_cons hA
  obtain ⟨v1, vs1, d1, ds1, p1, q1, rfl, rfl, rfl, h1, r1⟩ := trodAll_cons r0
  obtain ⟨rfl, rfl, rfl⟩ := trodAll_nil r1
  obtain rfl : args = #[v0, v1] := by cases args; simp_all
  obtain ⟨rfl, rfl⟩ := trodVars_none hV
  obtain ⟨a0, len0, cap0, rfl⟩ := okWide_slice Try.underlying24 (hval 0 24 v0 rfl rfl)
  have k0 := h0
  have lt0 : ∀ x ∈ p0, x.block < W.heap.size := by obtain ⟨m, hm⟩ := k0; exact DataW.trod_lt m _ _ _ hm
  obtain ⟨z0, n0, u0, f0, c0⟩ := in_ints Try.underlying24 Try.underlying5 (by kernel_rfl) h0
  have w0 := Rd.bytes u0 n0 f0
  obtain ⟨a1, len1, cap1, rfl⟩ := okWide_slice Try.underlying24 (hval 1 24 v1 rfl rfl)
  have k1 := h1
  have lt1 : ∀ x ∈ p1, x.block < W.heap.size := by obtain ⟨m, hm⟩ := k1; exact DataW.trod_lt m _ _ _ hm
  obtain ⟨z1, n1, u1, f1, c1⟩ := in_ints Try.underlying24 Try.underlying5 (by kernel_rfl) h1
  have w1 := Rd.bytes u1 n1 f1
  clear hA0 hval0
  refine (walk W a0 len0 cap0 w0 c0 a1 len1 cap1 w1 c1).mono fun e W' ⟨he, bel⟩ => ?_
  subst he
  exact ⟨_, rfl, _, _, _, [], _, [], hW', trodAll_mk1 (shut_bool Try.underlying4 _), (trodAll_cons_mk (Below.trod laidOut (by kernel_rfl) (of_decide_eq_true (by kernel_rfl)) k0 bel lt0) (trodAll_cons_mk (Below.trod laidOut (by kernel_rfl) (of_decide_eq_true (by kernel_rfl)) k1 bel lt1) trodAll_mk0)), rfl, bel.frame _, fun h => by cases h⟩

theorem over : Rows.fnLinkedLessRow.holds Try.pinned (OpenSpec.ofChange Rows.fnLinkedLessSpec) :=
  OpenClaim.holds_of_wide 6 Try.f6 rfl rfl rfl rfl rfl rfl rfl ⟨rfl, rfl, rfl, rfl, rfl⟩ rfl rfl rfl rfl rfl (by kernel_rfl) Try.func6 (by kernel_rfl)
    (of_decide_eq_true (by kernel_rfl)) (by unfold Func.isWrapper; first | (rw [if_pos (by decide +kernel)]; kernel_rfl) | (rw [if_neg (by decide +kernel)]; exact ⟨rfl, rfl⟩))
    (fun os started H enc _ => lifted os started H enc)

theorem proved : Rows.FnLinkedLessSaid := over
#print axioms proved
end Go.Proofs.Ytopneihamefohaa.fnLinkedLess
