/- Loops are counted. For every input; each argument reads afterwards as it read before. -/
import Derived.Test.YtopneihamefohaaFrame
import Derived.Test.YtopneihamefohaaFlagT
import Derived.Test.YtopneihamefohaaMany
namespace Go.Proofs.Ytopneihamefohaa.fnLoops
open Go.ChangeShapes Go.WideShapes Go.ChangeAt Go.RowKit Go.Deep
set_option linter.unusedVariables false

set_option maxHeartbeats 3000000 in
set_option maxRecDepth 100000 in
theorem walk (w : World) (a0 : Option Addr) (len0 cap0 : Nat) (h0 : Bytes w a0 len0 w.heap.size) (k0 : len0 ≤ cap0) (a1 : Option Addr) (len1 cap1 : Nat) (h1 : Bytes w a1 len1 w.heap.size) (k1 : len1 ≤ cap1) :
    Calls Try.prog 13 #[.slice a0 len0 cap0, .slice a1 len1 cap1] w fun e w' => e = .returned (.bool true) ∧ Below w.heap.size w w' := by
  by_cases gl0 : len0 ≤ 1048576
  case neg =>
    go_enter Try.func13, Try.ntmps13
    go_wp2
    go_ret
    exact ⟨rfl, Below.refl _ _⟩
  by_cases gl1 : len1 ≤ 1048576
  case neg =>
    go_enter Try.func13, Try.ntmps13
    go_wp2
    go_ret
    exact ⟨rfl, Below.refl _ _⟩
  case pos =>
    have B := Below.refl w.heap.size w
    go_enter Try.func13, Try.ntmps13
    go_wp2_with fail
    refine (DrawFlagLoops_any _ _ _ _ h0 k0).mono ?_
    rintro e w1 ⟨n, A, c, fl, rfl, n1, n8, lf, lc, o, b1⟩
    have s1 := b1.size
    replace B := bel_trans B b1
    clear b1
    go_wp2_with fail
    refine (FlagLoops_any _ _ _ _ _ o.rd (by omega) rfl).mono ?_
    rintro e w2 ⟨rfl, b2⟩
    have s2 := b2.size
    replace B := bel_trans B b2
    replace o := o.below b2 (by omega)
    clear b2
    go_wp2_with fail
    refine (sFlagLoops_any _ _ _ _ _ o.rd (by omega) rfl).mono ?_
    rintro e w3 ⟨rfl, b3⟩
    have s3 := b3.size
    replace B := bel_trans B b3
    replace o := o.below b3 (by omega)
    clear b3
    cases hok : flB n fl with
    | false =>
      rw [loops_no hok]
      go_wp2
      go_ret
      exact ⟨rfl, B⟩
    | true =>
    obtain ⟨N, rfl, n2, n7, hlen⟩ := flB_ok hok
    obtain ⟨lc1, lc2, lc3, lc4, lc5, lc6, lc7, lc8⟩ := loops_cyc hok
    have hnb := nb_le n7
    have hnp := nb_pos n2 n7
    have HLn := Lib.hid hlen
    have HC := Lib.hid lc1
    have p0 : 0 ≤ flagLoops (N : Int) fl := by omega
    have p1 : flagLoops (N : Int) fl ≤ 21 := by omega
    have p2 : decide (flagLoops (N : Int) fl < 0) = false := by simp; omega
    have hl1 : fl.length ≤ 21 := by omega
    clear hlen lc1 lc2 lc6
    obtain ⟨a, ha⟩ : ∃ a : Nat, a = len1 % nb N := ⟨_, rfl⟩
    have han : a < nb N := by rw [ha]; exact Nat.mod_lt _ (by omega)
    have ek : (len1 : Int) % (fl.length : Int) = (a : Int) := by rw [ha, HLn.out]; simp
    have ek2 : ((fl.length : Int) == 0) = false := by rw [HLn.out]; simp; omega
    have ek3 : ¬ (fl.length : Int) = 0 := by rw [HLn.out]; omega
    have ek4 : ¬ fl.length = 0 := by rw [HLn.out]; omega
    have ek5 : ¬ fl = [] := fun e => by rw [e] at ek4; simp at ek4
    clear ha
    obtain ⟨i0, hi, hz0, hz1, hz2⟩ := info_parts info_bool
    have blb : 0 < fl.length := by rw [HLn.out]; omega
    have bla : (a : Int) < (fl.length : Int) := by rw [HLn.out]; omega
    obtain ⟨qb, fb, eb, hqb, _⟩ := o.rd.bool_at (k := 0) blb
    subst eb
    have RO := Lib.hid (o.rd.below ((Below.refl w3.heap.size w3).alloc (Nat.le_refl _) (.cells #[] 4)) (Nat.le_refl _))
    have m1 := Lib.hid (show 0 + fl.length ≤ maxLen by simp [maxLen]; omega)
    have m2 := Lib.hid (show (0 + fl.length) * 1 ≤ 140737488355328 by omega)
    have m3 := Lib.hid (show w3.heap.size ≤ (w3.alloc (.cells #[] 4)).heap.size by simp)
    have m4 := Lib.hid (World.ownsRow_made (e := 4) (size := 1) w3 #[] 0 (Nat.le_refl _) (by simp [maxLen]) rfl)
    have m5 := Lib.hid (bools_one fl)
    go_wp2_with (
     at_builtin
     refine wpList_append_lies _ rfl _ _ 27 rfl w3.heap.size 4 i0 (.bool false) 1 1 Try.underlying27 hi hz0 hz1 hz2 rfl (by decide) _ 0 [] rfl m4.out ⟨qb, fb, none⟩ fl.length c (bools fl) rfl (by simp) (RO.out.olds _ rfl) m5.out blb m1.out m2.out m3.out _ rfl ?_
     intro gq cap w4 hown1 hgrow hat hlt1
     have b4 : Below w3.heap.size w3 w4 := bel_app (Below.refl _ _) hgrow (fun q hq => by cases hq; exact Nat.le_refl _)
     have o3 : Ow w4 4 w3.heap.size w4.heap.size (some ⟨gq, 0, none⟩) (bools fl) := Ow.of_own (by simpa using hown1)
     clear hown1 hgrow hat hlt1 RO m1 m2 m3 m4 m5
     have s4 := b4.size
     replace B := bel_trans B b4
     replace o := o.below b4 (by omega)
     skip
     clear b4
     obtain ⟨gq', of', e', r1, r2, r3, cc1, ff1, hset⟩ := o3.cell_at (k := a) (by simpa using (by omega : a < fl.length))
     injection e' with e'
     injection e' with e1' e2'
     subst e1' e2'
     have o4 := hset (.bool true)
     rw [bools_set] at o4
     have on : Only w4 (w4.setCell ⟨gq, 0 + a, none⟩ (.bool true)) w3.heap.size w4.heap.size := (Only.refl _ _ _).setCell r1 r2 _
     rw [bools_get (by omega)] at cc1
     simp only [Nat.zero_add] at cc1 ff1 o4 on
     have B_ := Lib.hid (on.below B (by omega) (Nat.le_refl _))
     have o_ := Lib.hid (o.only on (.inl (by omega)))
     skip
     have o4_ := Lib.hid o4
     clear o4 on hset o  o3 B)
    have o := o_.out
    skip
    have o3 := o4_.out
    have B := B_.out
    clear o_  o4_ B_ cc1 ff1
    have hsz : (w4.setCell ⟨gq, a, none⟩ (.bool true)).heap.size = w4.heap.size := by simp [World.setCell]
    obtain ⟨w5, hW⟩ : ∃ W : World, W = w4.setCell ⟨gq, a, none⟩ (.bool true) := ⟨_, rfl⟩
    rw [← hW] at o  o3 B hsz ⊢
    have hsz1 := Nat.le_of_eq hsz
    have hsz2 := Nat.le_of_eq hsz.symm
    have HSZ := Lib.hid hsz
    clear hW hsz ek ek2 ek3 ek4 ek5
    obtain ⟨hx1, hx2⟩ := loops_less hok han
    have HX1 := Lib.hid hx1
    have hmx := loops_max hok
    obtain ⟨hn1, hn2⟩ := loops_none n2 n7
    have HN2 := Lib.hid hn2
    have hcm : cm' (N : Int) = cm (N : Int) := rfl
    rw [hcm] at hmx
    have HCM := Lib.hid hcm
    have hbx := loops_bd (N : Int) (fl.set a true)
    clear hx1 hn1 hn2 hcm
    have ST := Lib.hid (show OneB w5 (w5.alloc (.cells #[] 4)) (.slice (some ⟨w4.heap.size, 0, none⟩) 0 0) 0 by rw [← HSZ.out]; exact OneB.start w5)
    go_loopw [11, 12] (fun u i wr => ∃ q : Nat, q ≤ fl.length ∧ i = .int .i64 q ∧ OneB w5 wr u q) (fun _ i _ => fl.length - (intOf i).toNat)
    case atStart => exact ⟨0, Nat.zero_le _, rfl, ST.out⟩
    case round =>
      clear ST
      obtain ⟨q, hq, rfl, hT⟩ := hrel
      by_cases hlt : q < fl.length
      · have H1 := Lib.hid hT
        clear hT
        have d0 : decide ((q : Int) < (fl.length : Int)) = true := by simp; omega
        have m1 := Lib.hid (show q + 1 ≤ maxLen by simp [maxLen]; omega)
        have m2 := Lib.hid (show (q + 1) * 1 ≤ 140737488355328 by omega)
        have m3 := Lib.hid (base_a (o := .cells #[.bool false] 4) H1.out.2.size)
        go_wp2_with (at_builtin; refine wpList_append_lies _ rfl _ _ 27 rfl w5.heap.size 4 i0 (.bool false) 1 1 Try.underlying27 hi hz0 hz1 hz2 rfl (by decide) _ q (bools (List.replicate q false)) rfl (H1.out.1.alloc _) ⟨wr.heap.size, 0, none⟩ 1 1 [.bool false] rfl rfl (news_a _ _ _) (one_bool _) (by decide) m1.out m2.out m3.out _ rfl ?_; intro g1 cap1' wa hown1 hgrow1 hat1 hlt1)
        go_roundw
        case rel => exact ⟨q + 1, by omega, by go_num, H1.out.app hown1 hgrow1⟩
        case measure => simp [intOf]; omega
      · obtain rfl : q = fl.length := by omega
        obtain ⟨Az, cz, rfl, hcz, _⟩ := own_shape hT.1
        have oz := Ow.of_own hT.1
        have b6 := hT.2
        clear hT hlt hq
        obtain ⟨w6, rfl⟩ : ∃ wq : World, wq = wr := ⟨_, rfl⟩
        rw [HLn.out] at oz
        have s6 := b6.size
        replace B := bel_trans B b6
        replace o := o.below b6 (by omega)
        replace o3 := o3.below b6 (by omega)
        clear b6
        go_wp2_with fail
        refine (FlagLoops_any _ _ _ _ _ o3.rd (by simp; omega) (by simp)).mono ?_
        rintro e w7 ⟨rfl, b7⟩
        have s7 := b7.size
        replace B := bel_trans B b7
        replace o := o.below b7 (by omega)
        replace o3 := o3.below b7 (by omega)
        replace oz := oz.below b7 (by omega)
        clear b7
        obtain ⟨z, hz⟩ : ∃ z : Int, z = flagLoops (N : Int) (fl.set a true) := ⟨_, rfl⟩
        rw [← hz] at hx2 hbx ⊢
        clear hz
        have d1 : decide (flagLoops (N : Int) fl ≤ cm (N : Int)) = true := by simpa using hmx
        obtain ⟨hbx1, hbx2⟩ := hbx
        go_wp2_with (go_at_call 16; refine (CloseMany_any _ _).mono ?_; rintro e w' ⟨rfl, rfl⟩)
        refine (FlagLoops_any _ _ _ _ _ oz.rd (by simp; omega) (by rw [List.length_replicate]; exact HLn.out.symm)).mono ?_
        rintro e w8 ⟨rfl, b8⟩
        have s8 := b8.size
        replace B := bel_trans B b8
        replace o := o.below b8 (by omega)
        replace o3 := o3.below b8 (by omega)
        replace oz := oz.below b8 (by omega)
        clear b8
        rw [HN2.out, HCM.out]
        obtain ⟨pb, fb2, eb, _, xb⟩ := o.rd.bool_at (k := a) (by rw [HLn.out]; exact han)
        injection eb with eb
        injection eb with eb1 eb2
        subst eb1 eb2
        generalize flagLoops (N : Int) fl = X at *
        rcases hx2 with h0 | ⟨h1', hgb⟩
        · obtain rfl : z = X := by omega
          have e1 : (z - z == 0) = true := by simp
          have e2 : z - z = 0 := by omega
          go_wp2_with (go_at_call 16; refine (CloseMany_any _ _).mono ?_; rintro e w' ⟨rfl, rfl⟩)
          all_goals
            go_ret
            exact ⟨ret_bool (by first | (simp; done) | (simp; omega)), B⟩
        · obtain rfl : z = X - 1 := by omega
          rw [hgb] at xb
          have e2 : X - (X - 1) = 1 := by omega
          clear hgb h1'
          go_wp2_with (go_at_call 16; refine (CloseMany_any _ _).mono ?_; rintro e w' ⟨rfl, rfl⟩)
          all_goals
            go_ret
            exact ⟨ret_bool (by first | (simp; done) | (simp; omega)), B⟩

set_option maxRecDepth 100000 in
theorem lifted (os : Os) (started : os.Started) (H : Type) (enc : TypeId × Value → H) :
    ReturnsInHanded {} Try.checked os 13 .any (Rows.fnLoopsSpec.pre6 enc Try.prog Try.f13 Rows.fnLoopsRow.domain false) (Rows.fnLoopsSpec.post enc Try.prog Try.f13 false true false false) := by
  refine returnsInHanded_of_change (C := Try.checked) own started (by kernel_rfl) Try.func13
    (ChangeSpec.witness6 (enc := enc) (C := Try.checked) false ⟨#[], #[.slice none 0 0, .slice none 0 0], []⟩ 8 (by kernel_rfl) (by kernel_rfl) (by kernel_rfl) (by kernel_rfl)) ?_
  intro W base args ds gs before hval0 hW hcnd _
  have hval : ∀ (j : Nat) t v, Try.f13.params[j]? = some t → args[j]? = some v → Value.okWide Try.prog W .any base t v := hval0
  have hW' := hW
  obtain ⟨p, q, hA0, hV, rfl, hfz, hnd⟩ := hW
  have hA : DataW.TrodAll enc Try.prog W 0 (fun _ => true) true Try.f13.params.toList args.toList ds p := hA0
  rw [Try.params13] at hA hval
  obtain ⟨v0, vs0, d0, ds0, p0, q0, hargs, rfl, rfl, h0, r0⟩ := trodAll_cons hA
  obtain ⟨v1, vs1, d1, ds1, p1, q1, rfl, rfl, rfl, h1, r1⟩ := trodAll_cons r0
  obtain ⟨rfl, rfl, rfl⟩ := trodAll_nil r1
  obtain rfl : args = #[v0, v1] := by cases args; simp_all
  obtain ⟨rfl, rfl⟩ := trodVars_none hV
  obtain ⟨a0, len0, cap0, rfl⟩ := okWide_slice Try.underlying24 (hval 0 24 v0 rfl rfl)
  have k0 := h0
  have lt0 : ∀ x ∈ p0, x.block < W.heap.size := by obtain ⟨m, hm⟩ := k0; exact DataW.trod_lt m _ _ _ hm
  obtain ⟨z0, n0, u0, f0, c0⟩ := in_ints Try.underlying24 Try.underlying5 (by kernel_rfl) h0
  have w0 := Rd.bytes u0 n0 f0
  obtain ⟨a1, len1, cap1, rfl⟩ := okWide_slice Try.underlying24 (hval 1 24 v1 rfl rfl)
  have k1 := h1
  have lt1 : ∀ x ∈ p1, x.block < W.heap.size := by obtain ⟨m, hm⟩ := k1; exact DataW.trod_lt m _ _ _ hm
  obtain ⟨z1, n1, u1, f1, c1⟩ := in_ints Try.underlying24 Try.underlying5 (by kernel_rfl) h1
  have w1 := Rd.bytes u1 n1 f1
  clear hA0 hval0
  refine (walk W a0 len0 cap0 w0 c0 a1 len1 cap1 w1 c1).mono fun e W' ⟨he, bel⟩ => ?_
  subst he
  exact ⟨_, rfl, _, _, _, [], _, [], hW', trodAll_mk1 (shut_bool Try.underlying4 _), (trodAll_cons_mk (Below.trod laidOut (by kernel_rfl) (of_decide_eq_true (by kernel_rfl)) k0 bel lt0) (trodAll_cons_mk (Below.trod laidOut (by kernel_rfl) (of_decide_eq_true (by kernel_rfl)) k1 bel lt1) trodAll_mk0)), rfl, bel.frame _, fun h => by cases h⟩

theorem over : Rows.fnLoopsRow.holds Try.pinned (OpenSpec.ofChange Rows.fnLoopsSpec) :=
  OpenClaim.holds_of_wide 13 Try.f13 rfl rfl rfl rfl rfl rfl rfl ⟨rfl, rfl, rfl, rfl, rfl⟩ rfl rfl rfl rfl rfl (by kernel_rfl) Try.func13 (by kernel_rfl)
    (of_decide_eq_true (by kernel_rfl)) (by unfold Func.isWrapper; first | (rw [if_pos (by decide +kernel)]; kernel_rfl) | (rw [if_neg (by decide +kernel)]; exact ⟨rfl, rfl⟩))
    (fun os started H enc _ => lifted os started H enc)

theorem proved : Rows.FnLoopsSaid := over
#print axioms proved
end Go.Proofs.Ytopneihamefohaa.fnLoops
