/- A sky has a number for each cell. For every input; each argument reads afterwards as it read before. -/
import Derived.Test.YtfigjmlipffdpaaFrame
import Derived.Test.YtfigjmlipffdpaaSkyA
import Derived.Test.YtfigjmlipffdpaaDrawSky
import Derived.Test.YtfigjmlipffdpaaSkyL
import Derived.Test.YtfigjmlipffdpaaApp
namespace Go.Proofs.Ytfigjmlipffdpaa.fnSky
open Go.ChangeShapes Go.WideShapes Go.ChangeAt Go.RowKit Go.Deep
set_option linter.unusedVariables false

theorem wpList_wanted {P : Program} {ops : Array Oper} {rest : List Oper} {o : Oper} {a : Act} {w : World} {Q : Exit → Act → World → Prop} (hw : Region.wanted o (yielded ops a.tmps) = true)
    (h : ∀ K : Act → World → Prop, (∀ a w, wpList P ops Q rest a w → K a w) → o.wp P a w K Q) : wpList P ops Q (o :: rest) a w :=
  wpList_step fun K hK => by rw [if_pos hw]; exact h K hK
set_option maxHeartbeats 4000000 in
set_option maxRecDepth 100000 in
theorem walk (w : World) (a0 : Option Addr) (len0 cap0 : Nat) (h0 : Bytes w a0 len0 w.heap.size) (k0 : len0 ≤ cap0) (a1 : Option Addr) (len1 cap1 : Nat) (h1 : Bytes w a1 len1 w.heap.size) (k1 : len1 ≤ cap1) :
    Calls Try.prog 5 #[.slice a0 len0 cap0, .slice a1 len1 cap1] w fun e w' => e = .returned (.bool true) ∧ Below w.heap.size w w' := by
  by_cases gl0 : len0 ≤ 1048576
  case neg =>
    go_enter Try.func5, Try.ntmps5
    go_wp2
    go_ret
    exact ⟨rfl, Below.refl _ _⟩
  by_cases gl1 : len1 ≤ 1048576
  case neg =>
    go_enter Try.func5, Try.ntmps5
    go_wp2
    go_ret
    exact ⟨rfl, Below.refl _ _⟩
  case pos =>
    have B := Below.refl w.heap.size w
    go_enter Try.func5, Try.ntmps5
    go_wp2_with fail
    refine (DrawSkyValid_any _ _ _ _ h0 k0).mono ?_
    rintro e w1 ⟨A, c, zs, rfl, hl, hc, o, b1⟩
    have s1 := b1.size
    replace B := bel_trans B b1
    clear b1
    go_wp2_with fail
    refine (SkyValid_any _ _ _ _ o.rd (by omega) rfl).mono ?_; rintro e w' ⟨rfl, rfl⟩
    go_wp2_with fail
    refine (sSkyValid_any _ _ _ _ o.rd (by omega) rfl).mono ?_; rintro e w' ⟨rfl, rfl⟩
    cases hok : skyB zs with
    | false =>
      go_wp2
      go_ret
      exact ⟨rfl, B⟩
    | true =>
    have LZ := Lib.hid (skyB_len hok)
    have l16 : zs.length ≤ 16 := Nat.le_of_eq (skyB_len hok)
    have l16' : 16 ≤ zs.length := Nat.le_of_eq (skyB_len hok).symm
    have HB := Lib.hid (skyB_bd hok)
    have F1 := Lib.hid (show skyB zs.tail = false by simp [skyB, LZ.out])
    have F2 := Lib.hid (show skyB (zs ++ [0]) = false by simp [skyB, LZ.out])
    have F3 := Lib.hid (show ∀ a, a < 16 → skyB (zs.set a 100001) = false from fun a ha => by
      rw [Bool.eq_false_iff]
      intro h
      have := (skyB_bd h a).2
      rw [gi_set _ _ _ _ (by omega), if_pos rfl] at this
      omega)
    obtain ⟨i0, hi, hz0, hz1, hz2⟩ := info_parts info_int
    have BH := Lib.hid B
    have ST := Lib.hid (World.ownsRow_made (e := 3) (size := 1) w1 #[] 0 (Nat.le_refl _) (by simp [maxLen]) rfl)
    clear hok B
    go_wp2
    go_loopw [8, 9] (fun v i wr => ∃ O : List Int, O.length ≤ 16 ∧ i = .int .i64 (O.length : Int) ∧ (∀ j, j < O.length → gi O j = -gi zs j) ∧ wr.ownsRow w1.heap.size 3 1 v O.length (ints O) ∧ Below w1.heap.size w1 wr) (fun _ i _ => 16 - (intOf i).toNat)
    case atStart => exact ⟨[], Nat.zero_le _, rfl, fun j hj => absurd hj (by simp), ST.out, (Below.refl _ _).alloc (Nat.le_refl _) _⟩
    case round =>
      clear ST
      obtain ⟨O, hO, rfl, hv, hrow, hB⟩ := hrel
      by_cases hlt : O.length < 16
      · obtain ⟨q1, f1, e1, _, hc1⟩ := (o.below hB (by omega)).rd.int_at (k := O.length) (by omega)
        subst e1
        have i1 : (O.length : Int) < (zs.length : Int) := by omega
        have hb := HB.out O.length
        have e1 : IntKind.i64.wrap (-gi zs O.length) = -gi zs O.length := IntWalk.i64_in _ (by omega)
        have e2 : IntKind.i64.wrap (0 - gi zs O.length) = -gi zs O.length := by rw [Int.zero_sub]; exact e1
        have HV := Lib.hid (show ∀ j, j < (O ++ [-gi zs O.length]).length → gi (O ++ [-gi zs O.length]) j = -gi zs j from fun j hj => by
          rw [List.length_append, List.length_singleton] at hj
          by_cases e : j = O.length
          · rw [e, gi_append_last]
          · rw [gi_append_left (by omega)]; exact hv j (by omega))
        have HR := Lib.hid hrow
        have H2 := Lib.hid hB
        have m1 := Lib.hid (show O.length + 1 ≤ maxLen by simp [maxLen]; omega)
        have m2 := Lib.hid (show (O.length + 1) * 8 ≤ 140737488355328 by omega)
        have m3 := Lib.hid (base_a (o := .cells #[.int .i64 (-gi zs O.length)] 3) hB.size)
        clear hv hrow hB hb
        go_wp2_with (at_builtin; refine wpList_append_lies _ rfl _ _ 22 rfl w1.heap.size 3 i0 (.int .i64 0) 1 8 Try.underlying22 hi hz0 hz1 hz2 rfl (by decide) _ O.length (ints O) rfl (HR.out.alloc _) ⟨wr.heap.size, 0, none⟩ 1 1 [.int .i64 (-gi zs O.length)] rfl rfl (news_a _ _ _) (one_int _) (by decide) m1.out m2.out m3.out _ rfl ?_; intro g' cap w7 hown1 hgrow hat hlt1)
        have H3 := Lib.hid ((H2.out.alloc H2.out.size _).grown hgrow (base_a H2.out.size) (fun q hq => (HR.out.lt q hq).1))
        have H4 := Lib.hid (show w7.ownsRow w1.heap.size 3 1 _ (O ++ [-gi zs O.length]).length (ints (O ++ [-gi zs O.length])) by rw [List.length_append, ints_append]; exact hown1)
        clear hown1 hgrow hat hlt1 e1 e2
        go_roundw
        case rel => exact ⟨O ++ [-gi zs O.length], by simp; omega, by simp, HV.out, H4.out, H3.out⟩
        case measure => simp [intOf]; omega
      · have el : O.length = 16 := by omega
        have XV := Lib.hid (show skyB O = true from skyB_of el (fun j hj => by have := HB.out j; rw [hv j (by omega)]; omega))
        obtain ⟨R, cr, rfl, _, _⟩ := own_shape hrow
        have ox := Ow.of_own hrow
        have lo : O.length ≤ 16 := by omega
        have i9 : ¬ (O.length : Int) < (zs.length : Int) := by omega
        have hs := hB.size
        replace o := o.below hB (by omega)
        have B := bel_trans BH.out hB
        clear hrow hB hv el BH hO
        obtain ⟨wz, rfl⟩ : ∃ wq : World, wq = wr := ⟨_, rfl⟩
        obtain ⟨a, ha⟩ : ∃ a : Nat, a = len1 % 16 := ⟨_, rfl⟩
        have han : a < 16 := by rw [ha]; exact Nat.mod_lt _ (by omega)
        have ek : (len1 : Int) % (zs.length : Int) = (a : Int) := by rw [ha, LZ.out]; simp
        have ek2 : ((zs.length : Int) == 0) = false := by rw [LZ.out]; rfl
        have ek3 : ¬ (zs.length : Int) = 0 := by omega
        have ek4 : ¬ zs.length = 0 := by omega
        have ek5 : ¬ zs = [] := fun e => by rw [e] at ek4; simp at ek4
        clear ha
        have blb : 0 < zs.length := by omega
        have bla : (a : Int) < (zs.length : Int) := by omega
        obtain ⟨qb, fb, eb, hqb, _⟩ := o.rd.int_at (k := 0) blb
        subst eb
        have RO := Lib.hid (o.rd.below ((Below.refl wz.heap.size wz).alloc (Nat.le_refl _) (.cells #[] 3)) (Nat.le_refl _))
        have m1 := Lib.hid (show 0 + zs.length ≤ maxLen by simp [maxLen]; omega)
        have m2 := Lib.hid (show (0 + zs.length) * 8 ≤ 140737488355328 by omega)
        have m3 := Lib.hid (show wz.heap.size ≤ (wz.alloc (.cells #[] 3)).heap.size by simp)
        have m4 := Lib.hid (World.ownsRow_made (e := 3) (size := 1) wz #[] 0 (Nat.le_refl _) (by simp [maxLen]) rfl)
        have m5 := Lib.hid (show ∀ u ∈ ints zs, u.oneCell' = true from fun u hu => by simp only [ints, List.mem_map] at hu; obtain ⟨x, _, rfl⟩ := hu; rfl)
        go_wp2_with (
         at_builtin
         refine wpList_append_lies _ rfl _ _ 22 rfl wz.heap.size 3 i0 (.int .i64 0) 1 8 Try.underlying22 hi hz0 hz1 hz2 rfl (by decide) _ 0 [] rfl m4.out ⟨qb, fb, none⟩ zs.length c (ints zs) rfl (by simp) (RO.out.olds _ rfl) m5.out blb m1.out m2.out m3.out _ rfl ?_
         intro gq cap wy hown1 hgrow hat hlt1
         have by_ : Below wz.heap.size wz wy := bel_app (Below.refl _ _) hgrow (fun q hq => by cases hq; exact Nat.le_refl _)
         have oy : Ow wy 3 wz.heap.size wy.heap.size (some ⟨gq, 0, none⟩) (ints zs) := Ow.of_own (by simpa using hown1)
         clear hown1 hgrow hat hlt1 RO m3 m4
         have sy := by_.size
         replace B := bel_trans B by_
         replace o := o.below by_ (by omega)
         replace ox := ox.below by_ (by omega)
         clear by_
         obtain ⟨gq', of', e', r1, r2, r3, cc1, ff1, hset⟩ := oy.cell_at (k := a) (by simpa using (by omega : a < zs.length))
         injection e' with e'
         injection e' with e1' e2'
         subst e1' e2'
         have oy2 := hset (.int .i64 100001)
         rw [ints_set] at oy2
         have on : Only wy (wy.setCell ⟨gq, 0 + a, none⟩ (.int .i64 100001)) wz.heap.size wy.heap.size := (Only.refl _ _ _).setCell r1 r2 _
         rw [ints_get (by omega)] at cc1
         simp only [Nat.zero_add] at cc1 ff1 oy2 on
         have B_ := Lib.hid (on.below B (by omega) (Nat.le_refl _))
         have o_ := Lib.hid (o.only on (.inl (by omega)))
         have ox_ := Lib.hid (ox.only on (.inl (by omega)))
         have oy_ := Lib.hid oy2
         clear oy2 on hset o ox oy B)
        have o := o_.out
        have ox := ox_.out
        have oy := oy_.out
        have B := B_.out
        clear o_ ox_ oy_ B_ cc1 ff1
        obtain ⟨wm, hW⟩ : ∃ W : World, W = wy.setCell ⟨gq, a, none⟩ (.int .i64 100001) := ⟨_, rfl⟩
        rw [← hW] at o ox oy B ⊢
        have hsz1 : wy.heap.size ≤ wm.heap.size := by rw [hW]; simp [World.setCell]
        clear hW ek ek2 ek3 ek4 ek5
        try go_wp2_with fail
        refine (SkyValid_any _ _ O wm ox.rd (by omega) rfl).mono ?_; rintro e w' ⟨rfl, rfl⟩
        rw [XV.out]
        have i1 : (1 : Int) ≤ (c : Int) := by omega
        have i2 : (1 : Int) ≤ (zs.length : Int) := by omega
        have i3 : ¬ c = 1 := by omega
        have i4 : ¬ (1 : Int) = (c : Int) := by omega
        have OT := Lib.hid (show Ow wm 3 _ _ (some ⟨qb, fb + 1, none⟩) (ints zs.tail) by rw [← ints_tail]; exact o.tail)
        go_wp2_with fail
        refine (SkyValid_any _ _ zs.tail wm OT.out.rd (by simp; omega) (by simp)).mono ?_; rintro e w' ⟨rfl, rfl⟩
        rw [F1.out]
        clear i1 i2 i3 i4 OT
        have RO := Lib.hid (o.rd.below ((Below.refl wm.heap.size wm).alloc (Nat.le_refl _) (.cells #[] 3)) (Nat.le_refl _))
        have m3 := Lib.hid (show wm.heap.size ≤ (wm.alloc (.cells #[] 3)).heap.size by simp)
        have m4 := Lib.hid (World.ownsRow_made (e := 3) (size := 1) wm #[] 0 (Nat.le_refl _) (by simp [maxLen]) rfl)
        have m6 := Lib.hid (show zs.length + 1 ≤ maxLen by simp [maxLen]; omega)
        have m7 := Lib.hid (show (zs.length + 1) * 8 ≤ 140737488355328 by omega)
        go_wp2_with (first
         | (at_builtin
            refine wpList_wanted (by rfl) (fun K hK => ?_)
            refine wp_append_lies _ (.tmp 69) (.tmp 70) 22 rfl wm.heap.size 3 i0 (.int .i64 0) 1 8 Try.underlying22 hi hz0 hz1 hz2 rfl (by decide) _ 0 [] rfl m4.out ⟨qb, fb, none⟩ zs.length c (ints zs) rfl (by simp) (RO.out.olds _ rfl) m5.out blb m1.out m2.out m3.out _ rfl ?_
            intro g5 cap5 w5 hown5 hgrow5 hat5 hlt5
            have b5 : Below wm.heap.size wm w5 := bel_app (Below.refl _ _) hgrow5 (fun q hq => by cases hq; exact Nat.le_refl _)
            have R5 := Lib.hid (show w5.ownsRow wm.heap.size 3 1 (.slice (some ⟨g5, 0, none⟩) zs.length cap5) zs.length (ints zs) by simpa using hown5)
            have H5 := Lib.hid b5
            have m8 := Lib.hid (base_a (o := .cells #[.int .i64 0] 3) b5.size)
            clear hown5 hgrow5 hat5 hlt5 b5 RO m3 m4
            refine hK _ _ ?_
            clear hK K)
         | (at_builtin
            refine wpList_wanted (by rfl) (fun K hK => ?_)
            refine wp_append_lies _ (.tmp 71) (.tmp 72) 22 rfl wm.heap.size 3 i0 (.int .i64 0) 1 8 Try.underlying22 hi hz0 hz1 hz2 rfl (by decide) _ zs.length (ints zs) rfl (R5.out.alloc _) ⟨w5.heap.size, 0, none⟩ 1 1 [.int .i64 0] rfl rfl (news_a _ _ _) (one_int _) (by decide) m6.out m7.out m8.out _ rfl ?_
            intro g6 cap6 w6 hown6 hgrow6 hat6 hlt6
            have H6 := Lib.hid ((H5.out.alloc H5.out.size _).grown hgrow6 (base_a H5.out.size) (fun q hq => (R5.out.lt q hq).1))
            have O6 := Lib.hid (Ow.of_own (show w6.ownsRow wm.heap.size 3 1 (.slice (some ⟨g6, 0, none⟩) (zs.length + 1) cap6) (zs.length + 1) (ints (zs ++ [0])) by rw [ints_append]; exact hown6))
            clear hown6 hgrow6 hat6 hlt6
            refine hK _ _ ?_
            clear hK K))
        refine (SkyValid_any _ _ (zs ++ [0]) w6 O6.out.rd (by simp; omega) (by simp)).mono ?_; rintro e w' ⟨rfl, rfl⟩
        rw [F2.out]
        replace oy := oy.below H6.out (by omega)
        replace B := bel_trans B H6.out
        go_wp2_with fail
        refine (SkyValid_any _ _ (zs.set a 100001) w6 oy.rd (by simp; omega) (by simp)).mono ?_; rintro e w' ⟨rfl, rfl⟩
        rw [F3.out a han]
        go_wp2
        go_ret
        exact ⟨rfl, B⟩

set_option maxRecDepth 100000 in
theorem lifted (os : Os) (started : os.Started) (H : Type) (enc : TypeId × Value → H) :
    ReturnsInHanded {} Try.checked os 5 .any (Rows.fnSkySpec.pre6 enc Try.prog Try.f5 Rows.fnSkyRow.domain false) (Rows.fnSkySpec.post enc Try.prog Try.f5 false true false false) := by
  refine returnsInHanded_of_change (C := Try.checked) own started (by kernel_rfl) Try.func5
    (ChangeSpec.witness6 (enc := enc) (C := Try.checked) false ⟨#[], #[.slice none 0 0, .slice none 0 0], []⟩ 8 (by kernel_rfl) (by kernel_rfl) (by kernel_rfl) (by kernel_rfl)) ?_
  intro W base args ds gs before hval0 hW hcnd _
  have hval : ∀ (j : Nat) t v, Try.f5.params[j]? = some t → args[j]? = some v → Value.okWide Try.prog W .any base t v := hval0
  have hW' := hW
  obtain ⟨p, q, hA0, hV, rfl, hfz, hnd⟩ := hW
  have hA : DataW.TrodAll enc Try.prog W 0 (fun _ => true) true Try.f5.params.toList args.toList ds p := hA0
  rw [Try.params5] at hA hval
  obtain ⟨v0, vs0, d0, ds0, p0, q0, hargs, rfl, rfl, h0, r0⟩ := trodAll_cons hA
  obtain ⟨v1, vs1, d1, ds1, p1, q1, rfl, rfl, rfl, h1, r1⟩ := trodAll_cons r0
  obtain ⟨rfl, rfl, rfl⟩ := trodAll_nil r1
  obtain rfl : args = #[v0, v1] := by cases args; simp_all
  obtain ⟨rfl, rfl⟩ := trodVars_none hV
  obtain ⟨a0, len0, cap0, rfl⟩ := okWide_slice Try.underlying28 (hval 0 28 v0 rfl rfl)
  have k0 := h0
  have lt0 : ∀ x ∈ p0, x.block < W.heap.size := by obtain ⟨m, hm⟩ := k0; exact DataW.trod_lt m _ _ _ hm
  obtain ⟨z0, n0, u0, f0, c0⟩ := in_ints Try.underlying28 Try.underlying5 (by kernel_rfl) h0
  have w0 := Rd.bytes u0 n0 f0
  obtain ⟨a1, len1, cap1, rfl⟩ := okWide_slice Try.underlying28 (hval 1 28 v1 rfl rfl)
  have k1 := h1
  have lt1 : ∀ x ∈ p1, x.block < W.heap.size := by obtain ⟨m, hm⟩ := k1; exact DataW.trod_lt m _ _ _ hm
  obtain ⟨z1, n1, u1, f1, c1⟩ := in_ints Try.underlying28 Try.underlying5 (by kernel_rfl) h1
  have w1 := Rd.bytes u1 n1 f1
  clear hA0 hval0
  refine (walk W a0 len0 cap0 w0 c0 a1 len1 cap1 w1 c1).mono fun e W' ⟨he, bel⟩ => ?_
  subst he
  exact ⟨_, rfl, _, _, _, [], _, [], hW', trodAll_mk1 (shut_bool Try.underlying4 _), (trodAll_cons_mk (Below.trod laidOut (by kernel_rfl) (of_decide_eq_true (by kernel_rfl)) k0 bel lt0) (trodAll_cons_mk (Below.trod laidOut (by kernel_rfl) (of_decide_eq_true (by kernel_rfl)) k1 bel lt1) trodAll_mk0)), rfl, bel.frame _, fun h => by cases h⟩

theorem over : Rows.fnSkyRow.holds Try.pinned (OpenSpec.ofChange Rows.fnSkySpec) :=
  OpenClaim.holds_of_wide 5 Try.f5 rfl rfl rfl rfl rfl rfl rfl ⟨rfl, rfl, rfl, rfl, rfl⟩ rfl rfl rfl rfl rfl (by kernel_rfl) Try.func5 (by kernel_rfl)
    (of_decide_eq_true (by kernel_rfl)) (by unfold Func.isWrapper; first | (rw [if_pos (by decide +kernel)]; kernel_rfl) | (rw [if_neg (by decide +kernel)]; exact ⟨rfl, rfl⟩))
    (fun os started H enc _ => lifted os started H enc)

theorem proved : Rows.FnSkySaid := over
#print axioms proved
end Go.Proofs.Ytfigjmlipffdpaa.fnSky
