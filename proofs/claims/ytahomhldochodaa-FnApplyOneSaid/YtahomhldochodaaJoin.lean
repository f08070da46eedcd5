/-
  Contracts of GainJoin, of the program and of the reference, of GainTurn and of the laws' own 'ones'.
-/
import Derived.Test.YtahomhldochodaaVisA
import Derived.Deep.RegionHeld3
import Derived.Deep.DrawnRows
namespace Go.Proofs.Ytahomhldochodaa
set_option linter.unusedVariables false
open Go.RowKit
attribute [local go_sem ↓] Go.wp_at_zero Go.wp_at_succ

theorem kc4 {w : World} {q1 o1 q2 o2 k : Nat} {a b : List (Int × Int)} (ha : Rd w (some ⟨q1, o1, none⟩) (pairs a)) (hb : Rd w (some ⟨q2, o2, none⟩) (pairs b)) (hka : k < a.length) (hkb : k < b.length) :
    ∀ w' : World, Below w.heap.size w w' → w'.cell? ⟨q1, o1 + k * 2, none⟩ = some (.int .i64 (g1 a k)) ∧ w'.cell? ⟨q1, o1 + k * 2 + 1, none⟩ = some (.int .i64 (g2 a k)) ∧ w'.cell? ⟨q2, o2 + k * 2, none⟩ = some (.int .i64 (g1 b k)) ∧ w'.cell? ⟨q2, o2 + k * 2 + 1, none⟩ = some (.int .i64 (g2 b k)) := by
  intro w' h
  obtain ⟨x1, y1, e1, _, c1, d1⟩ := (ha.below h (Nat.le_refl _)).pair_at hka
  obtain ⟨x2, y2, e2, _, c2, d2⟩ := (hb.below h (Nat.le_refl _)).pair_at hkb
  cases e1
  cases e2
  exact ⟨c1, d1, c2, d2⟩
theorem quiet_below {w w1 w2 : World} (h : Below w.heap.size w w1) (k : Below w1.heap.size w1 w2) : Below w.heap.size w w2 := bel_trans h k

set_option maxHeartbeats 4000000 in
theorem GainJoin_any (n : Int) (A B : Option Addr) (c d : Nat) (a b : List (Int × Int)) (w : World) (ha : Rd w A (pairs a)) (hb : Rd w B (pairs b)) (hl : a.length ≤ 1048592) (hl' : b.length ≤ 1048592) {m m' : Nat} (hm : a.length = m) (hm' : b.length = m') :
    Calls Try.prog 18 #[.int .i64 n, .slice A m c, .slice B m' d] w (RetG w 38 (gainJoin n a b)) := by
  subst hm hm'
  cases va : gainB n a with
  | false =>
    rw [show gainJoin n a b = ([], false) by simp [gainJoin, va]]
    go_enter Try.func18, Try.ntmps18
    go_wp2_with fail
    refine (GainsValid_any _ _ _ _ _ ha hl rfl).mono ?_
    rintro e v1 ⟨rfl, d1⟩
    rw [va]
    go_wp2
    go_ret2
    exact RetG.none_ _ _ d1
  | true =>
  cases vb : gainB n b with
  | false =>
    rw [show gainJoin n a b = ([], false) by simp [gainJoin, vb]]
    go_enter Try.func18, Try.ntmps18
    go_wp2_with fail
    refine (GainsValid_any _ _ _ _ _ ha hl rfl).mono ?_
    rintro e v1 ⟨rfl, d1⟩
    rw [va]
    go_wp2_with fail
    refine (GainsValid_any _ _ _ _ _ (hb.below d1 (Nat.le_refl _)) hl' rfl).mono ?_
    rintro e v2 ⟨rfl, d2⟩
    rw [vb]
    have D := bel_trans d1 d2
    clear d1 d2
    go_wp2
    go_ret2
    exact RetG.none_ _ _ D
  | true =>
  obtain ⟨hmn, hla, hva⟩ := gainB_ok va
  obtain ⟨_, hlb, hvb⟩ := gainB_ok vb
  obtain ⟨N, rfl, h2, h7⟩ := many_nat hmn
  have LA := Lib.hid (gainB_len va)
  have LB := Lib.hid (gainB_len vb)
  have la1 := Nat.le_of_eq (gainB_len va)
  have la2 := Nat.le_of_eq (gainB_len va).symm
  have lb1 := Nat.le_of_eq (gainB_len vb)
  have lb2 := Nat.le_of_eq (gainB_len vb).symm
  clear hla hlb
  obtain ⟨i0, hi, hz0, hz1, hz2⟩ := info_parts info_Vis
  go_enter Try.func18, Try.ntmps18
  go_wp2_with fail
  refine (GainsValid_any _ _ _ _ _ ha hl rfl).mono ?_
  rintro e v1 ⟨rfl, d1⟩
  rw [va]
  go_wp2_with fail
  refine (GainsValid_any _ _ _ _ _ (hb.below d1 (Nat.le_refl _)) hl' rfl).mono ?_
  rintro e v2 ⟨rfl, d2⟩
  rw [vb]
  have D := Lib.hid (bel_trans d1 d2)
  clear d1 d2
  go_wp2
  go_loopw [8, 21] (fun o i wr => ∃ k : Nat, k ≤ N ∧ i = .int .i64 k ∧ ApG w wr 38 o (jnF a b) k) (fun _ i _ => N - (intOf i).toNat)
  case atStart => exact ⟨0, Nat.zero_le _, rfl, World.ownsRow_nil _ _ _ _, D.out⟩
  case round =>
    obtain ⟨k, hk, rfl, hap⟩ := hrel
    by_cases hlt : k < N
    · obtain ⟨q1, o1, rfl, hq1, hc1, hd1⟩ := (ha.below hap.2 (Nat.le_refl _)).pair_at (k := k) (by omega)
      obtain ⟨q2, o2, rfl, hq2, hc2, hd2⟩ := (hb.below hap.2 (Nat.le_refl _)).pair_at (k := k) (by omega)
      obtain ⟨z1, z2, z3, z4⟩ := allV_bd hva (j := k) (by omega)
      obtain ⟨y1, y2, y3, y4⟩ := allV_bd hvb (j := k) (by omega)
      obtain ⟨p1, p2⟩ := mul_bd (x := g1 a k) (y := g1 b k) (B := 99) (C := 99) (by omega) (by omega)
      have i1 : (k : Int) < (a.length : Int) := by omega
      have i2 : (k : Int) < (b.length : Int) := by omega
      have m1 := Lib.hid (show k + 1 ≤ maxLen by simp [maxLen]; omega)
      have m2 := Lib.hid (show (k + 1) * 16 ≤ 140737488355328 by omega)
      have m3 := Lib.hid (base_da (o := .cells #[.int .i64 (g1 a k * g1 b k), .int .i64 ((g2 a k + g2 b k) % 360)] 38) hap.2.size)
      have H1 := Lib.hid hap
      have KC := Lib.hid (kc4 ha hb (show k < a.length by omega) (show k < b.length by omega))
      have B0 := Lib.hid (hap.2.drew)
      have B1 := Lib.hid ((hap.2.alloc hap.2.size (.cells #[.int .i64 (g1 a k * g1 b k), .int .i64 ((g2 a k + g2 b k) % 360)] 38)).drew)
      clear hap hc1 hd1 hc2 hd2
      go_wp2
      have e1 : IntKind.i64.wrap (g1 a k * g1 b k) = g1 a k * g1 b k := IntWalk.i64_in _ (by omega)
      have e2 : IntKind.i64.wrap (g2 a k + g2 b k) = g2 a k + g2 b k := IntWalk.i64_in _ (by clear e1; omega)
      go_region_held3 (fun w' => w'.cell? ⟨q1, o1 + k * 2, none⟩ = some (.int .i64 (g1 a k)) ∧ w'.cell? ⟨q1, o1 + k * 2 + 1, none⟩ = some (.int .i64 (g2 a k)) ∧ w'.cell? ⟨q2, o2 + k * 2, none⟩ = some (.int .i64 (g1 b k)) ∧ w'.cell? ⟨q2, o2 + k * 2 + 1, none⟩ = some (.int .i64 (g2 b k))) (first | exact KC.out _ B2 | exact KC.out _ B1.out | exact KC.out _ B0.out | go_keep)
        (first | (go_at_call 33; (with_reducible refine (PhaseOf_any _ _).mono ?_); rintro e w' ⟨rfl, rfl⟩) | (refine step_append_lies _ rfl (.tmp 24) (.tmp 49) 24 rfl w.heap.size 38 i0 (.agg #[.int .i64 0, .int .i64 0]) 2 16 Try.underlying24 hi hz0 hz1 hz2 rfl (by decide) _ k (pairs (upto (jnF a b) k)) (by simp [Act.eval]) (own_da H1.out.1 _) ⟨wr.heap.size, 0, none⟩ 1 1 [.int .i64 (g1 a k * g1 b k), .int .i64 ((g2 a k + g2 b k) % 360)] (by simp [Act.eval]) rfl (news_da2 _ _ _ _) (one2 _ _) (by decide) m1.out m2.out m3.out _ rfl ?_; intro g cap w1 hown1 hgrow hat hlt1; have B2 := bel_append H1.out.2 hgrow (fun q hq => (H1.out.1.lt q hq).1)))
      all_goals
        clear e1 e2
        go_wp2
        go_roundw
        case rel => exact ⟨k + 1, by omega, by go_num, ApG.stepD (f := jnF a b) H1.out hown1 hgrow⟩
        case measure => simp [intOf]; omega
    · obtain rfl : k = N := by omega
      obtain ⟨Ao, co, rfl, hco, _⟩ := own_shape hap.1
      have ho := Ow.of_own hap.1
      have hbw := hap.2
      clear hap
      cases vc : gainB (k : Int) (upto (jnF a b) k) with
      | false =>
        have HF := Lib.hid (show gainJoin (k : Int) a b = ([], false) by simp [gainJoin, vc])
        go_wp2_with fail
        refine (GainsValid_any _ _ _ _ _ ho.rd (by simp; omega) (by simp)).mono ?_
        rintro e v3 ⟨rfl, d3⟩
        rw [vc]
        have D3 := bel_trans hbw d3
        clear d3
        go_wp2
        go_ret2
        rw [HF.out]
        exact RetG.none_ _ _ D3
      | true =>
        have HF := Lib.hid (show gainJoin (k : Int) a b = (upto (jnF a b) k, true) by rw [join_mk va vb (by rw [Int.toNat_natCast]; exact vc), Int.toNat_natCast])
        go_wp2_with fail
        refine (GainsValid_any _ _ _ _ _ ho.rd (by simp; omega) (by simp)).mono ?_
        rintro e v3 ⟨rfl, d3⟩
        rw [vc]
        have D3 := bel_trans hbw d3
        have ho3 := (ho.below d3 (Nat.le_refl _)).mono (Nat.le_refl _) d3.size
        clear d3 ho
        go_wp2
        go_ret2
        rw [HF.out]
        exact ⟨Ao, co, by simp, by simpa using hco, ho3, D3⟩

set_option maxHeartbeats 4000000 in
theorem sGainJoin_any (n : Int) (A B : Option Addr) (c d : Nat) (a b : List (Int × Int)) (w : World) (ha : Rd w A (pairs a)) (hb : Rd w B (pairs b)) (hl : a.length ≤ 1048592) (hl' : b.length ≤ 1048592) {m m' : Nat} (hm : a.length = m) (hm' : b.length = m') :
    Calls Try.prog 16 #[.int .i64 n, .slice A m c, .slice B m' d] w (RetG w 38 (gainJoin n a b)) := by
  subst hm hm'
  have bw : Below w.heap.size w (w.alloc (.cells #[] 38)) := (Below.refl w.heap.size w).alloc (Nat.le_refl _) _
  have ha' := ha.below bw (Nat.le_refl _)
  have hb' := hb.below bw (Nat.le_refl _)
  cases va : gainB n a with
  | false =>
    rw [show gainJoin n a b = ([], false) by simp [gainJoin, va]]
    go_enter Try.func16, Try.ntmps16
    go_wp2_with fail
    refine (sGainsValid_any _ _ _ _ _ ha' hl rfl).mono ?_; rintro e w' ⟨rfl, rfl⟩
    rw [va]
    go_wp2
    go_ret2
    exact RetG.none_ _ _ bw
  | true =>
  cases vb : gainB n b with
  | false =>
    rw [show gainJoin n a b = ([], false) by simp [gainJoin, vb]]
    go_enter Try.func16, Try.ntmps16
    go_wp2_with fail
    refine (sGainsValid_any _ _ _ _ _ ha' hl rfl).mono ?_; rintro e w' ⟨rfl, rfl⟩
    rw [va]
    go_wp2_with fail
    refine (sGainsValid_any _ _ _ _ _ hb' hl' rfl).mono ?_; rintro e w' ⟨rfl, rfl⟩
    rw [vb]
    go_wp2
    go_ret2
    exact RetG.none_ _ _ bw
  | true =>
  obtain ⟨hmn, hla, hva⟩ := gainB_ok va
  obtain ⟨_, hlb, hvb⟩ := gainB_ok vb
  obtain ⟨N, rfl, h2, h7⟩ := many_nat hmn
  have LA := Lib.hid (gainB_len va)
  have LB := Lib.hid (gainB_len vb)
  have la1 := Nat.le_of_eq (gainB_len va)
  have la2 := Nat.le_of_eq (gainB_len va).symm
  have lb1 := Nat.le_of_eq (gainB_len vb)
  have lb2 := Nat.le_of_eq (gainB_len vb).symm
  clear hla hlb
  obtain ⟨i0, hi, hz0, hz1, hz2⟩ := info_parts info_Vis
  go_enter Try.func16, Try.ntmps16
  go_wp2_with fail
  refine (sGainsValid_any _ _ _ _ _ ha' hl rfl).mono ?_; rintro e w' ⟨rfl, rfl⟩
  rw [va]
  go_wp2_with fail
  refine (sGainsValid_any _ _ _ _ _ hb' hl' rfl).mono ?_; rintro e w' ⟨rfl, rfl⟩
  rw [vb]
  clear bw ha' hb'
  go_wp2
  go_loopw [8, 9] (fun o i wr => ∃ k : Nat, k ≤ N ∧ i = .int .i64 k ∧ ApG w wr 38 o (jnF a b) k) (fun _ i _ => N - (intOf i).toNat)
  case atStart => exact ⟨0, Nat.zero_le _, rfl, World.ownsRow_made w #[] 0 (Nat.le_refl _) (by simp [maxLen]) rfl, (Below.refl _ _).alloc (Nat.le_refl _) _⟩
  case round =>
    obtain ⟨k, hk, rfl, hap⟩ := hrel
    by_cases hlt : k < N
    · obtain ⟨q1, o1, rfl, hq1, hc1, hd1⟩ := (ha.below hap.2 (Nat.le_refl _)).pair_at (k := k) (by omega)
      obtain ⟨q2, o2, rfl, hq2, hc2, hd2⟩ := (hb.below hap.2 (Nat.le_refl _)).pair_at (k := k) (by omega)
      obtain ⟨z1, z2, z3, z4⟩ := allV_bd hva (j := k) (by omega)
      obtain ⟨y1, y2, y3, y4⟩ := allV_bd hvb (j := k) (by omega)
      obtain ⟨p1, p2⟩ := mul_bd (x := g1 a k) (y := g1 b k) (B := 99) (C := 99) (by omega) (by omega)
      have i1 : (k : Int) < (a.length : Int) := by omega
      have i2 : (k : Int) < (b.length : Int) := by omega
      have m1 := Lib.hid (show k + 1 ≤ maxLen by simp [maxLen]; omega)
      have m2 := Lib.hid (show (k + 1) * 16 ≤ 140737488355328 by omega)
      have m3 := Lib.hid (base_da (o := .cells #[.int .i64 (g1 a k * g1 b k), .int .i64 ((g2 a k + g2 b k) % 360)] 38) hap.2.size)
      have H1 := Lib.hid hap
      have KC := Lib.hid (kc4 ha hb (show k < a.length by omega) (show k < b.length by omega))
      have B0 := Lib.hid (hap.2.drew)
      have B1 := Lib.hid ((hap.2.alloc hap.2.size (.cells #[.int .i64 (g1 a k * g1 b k), .int .i64 ((g2 a k + g2 b k) % 360)] 38)).drew)
      clear hap hc1 hd1 hc2 hd2
      go_wp2
      have e1 : IntKind.i64.wrap (g1 a k * g1 b k) = g1 a k * g1 b k := IntWalk.i64_in _ (by omega)
      have e2 : IntKind.i64.wrap (g2 a k + g2 b k) = g2 a k + g2 b k := IntWalk.i64_in _ (by clear e1; omega)
      go_region_held3 (fun w' => w'.cell? ⟨q1, o1 + k * 2, none⟩ = some (.int .i64 (g1 a k)) ∧ w'.cell? ⟨q1, o1 + k * 2 + 1, none⟩ = some (.int .i64 (g2 a k)) ∧ w'.cell? ⟨q2, o2 + k * 2, none⟩ = some (.int .i64 (g1 b k)) ∧ w'.cell? ⟨q2, o2 + k * 2 + 1, none⟩ = some (.int .i64 (g2 b k))) (first | exact KC.out _ B2 | exact KC.out _ B1.out | exact KC.out _ B0.out | go_keep)
        (first | (go_at_call 37; (with_reducible refine (sPhaseOf_any _ _).mono ?_); rintro e w' ⟨rfl, rfl⟩) | (refine step_append_lies _ rfl (.tmp 27) (.tmp 52) 24 rfl w.heap.size 38 i0 (.agg #[.int .i64 0, .int .i64 0]) 2 16 Try.underlying24 hi hz0 hz1 hz2 rfl (by decide) _ k (pairs (upto (jnF a b) k)) (by simp [Act.eval]) (own_da H1.out.1 _) ⟨wr.heap.size, 0, none⟩ 1 1 [.int .i64 (g1 a k * g1 b k), .int .i64 ((g2 a k + g2 b k) % 360)] (by simp [Act.eval]) rfl (news_da2 _ _ _ _) (one2 _ _) (by decide) m1.out m2.out m3.out _ rfl ?_; intro g cap w1 hown1 hgrow hat hlt1; have B2 := bel_append H1.out.2 hgrow (fun q hq => (H1.out.1.lt q hq).1)))
      all_goals
        clear e1 e2
        go_wp2
        go_roundw
        case rel => exact ⟨k + 1, by omega, by go_num, ApG.stepD (f := jnF a b) H1.out hown1 hgrow⟩
        case measure => simp [intOf]; omega
    · obtain rfl : k = N := by omega
      obtain ⟨Ao, co, rfl, hco, _⟩ := own_shape hap.1
      have ho := Ow.of_own hap.1
      have hbw := hap.2
      clear hap
      cases vc : gainB (k : Int) (upto (jnF a b) k) with
      | false =>
        have HF := Lib.hid (show gainJoin (k : Int) a b = ([], false) by simp [gainJoin, vc])
        go_wp2_with fail
        refine (sGainsValid_any _ _ _ _ _ ho.rd (by simp; omega) (by simp)).mono ?_; rintro e w' ⟨rfl, rfl⟩
        rw [vc]
        go_wp2
        go_ret2
        rw [HF.out]
        exact RetG.none_ _ _ (hbw.alloc hbw.size _)
      | true =>
        have HF := Lib.hid (show gainJoin (k : Int) a b = (upto (jnF a b) k, true) by rw [join_mk va vb (by rw [Int.toNat_natCast]; exact vc), Int.toNat_natCast])
        go_wp2_with fail
        refine (sGainsValid_any _ _ _ _ _ ho.rd (by simp; omega) (by simp)).mono ?_; rintro e w' ⟨rfl, rfl⟩
        rw [vc]
        go_wp2
        go_ret2
        rw [HF.out]
        exact ⟨Ao, co, by simp, by simpa using hco, ho, hbw⟩

set_option maxHeartbeats 800000 in
theorem ones_any (N : Nat) (w : World) (h : N ≤ 1000) :
    Calls Try.prog 24 #[.int .i64 (N : Int)] w fun e w' => ∃ A c, e = .returned (.slice A N c) ∧ Ow w' 38 w.heap.size w'.heap.size A (pairs (onesL N)) ∧ Below w.heap.size w w' := by
  obtain ⟨i0, hi, hz0, hz1, hz2⟩ := info_parts info_Vis
  go_enter Try.func24, Try.ntmps24
  go_wp2
  go_loopw [3, 4] (fun v i wr => ∃ k : Nat, k ≤ N ∧ i = .int .i64 k ∧ ApG w wr 38 v (fun _ => (1, 0)) k) (fun _ i _ => N - (intOf i).toNat)
  case atStart => exact ⟨0, Nat.zero_le _, rfl, World.ownsRow_made w #[] 0 (Nat.le_refl _) (by simp [maxLen]) rfl, (Below.refl _ _).alloc (Nat.le_refl _) _⟩
  case round =>
    obtain ⟨k, hk, rfl, hap⟩ := hrel
    by_cases hlt : k < N
    · have m1 := Lib.hid (show k + 1 ≤ maxLen by simp [maxLen]; omega)
      have m2 := Lib.hid (show (k + 1) * 16 ≤ 140737488355328 by omega)
      have m3 := Lib.hid (base_a (o := .cells #[.int .i64 1, .int .i64 0] 38) hap.2.size)
      have H1 := Lib.hid hap
      clear hap
      go_wp2_with (at_builtin; refine wpList_append_lies _ rfl _ _ 24 rfl w.heap.size 38 i0 (.agg #[.int .i64 0, .int .i64 0]) 2 16 Try.underlying24 hi hz0 hz1 hz2 rfl (by decide) _ k (pairs (upto (fun _ => (1, 0)) k)) rfl (H1.out.1.alloc _) ⟨wr.heap.size, 0, none⟩ 1 1 [.int .i64 1, .int .i64 0] rfl rfl (news2 _ _ _ _) (one2 _ _) (by decide) m1.out m2.out m3.out _ rfl ?_; intro g cap w1 hown1 hgrow hat hlt1)
      go_roundw
      case rel => exact ⟨k + 1, by omega, by go_num, ApG.step (f := fun _ => (1, 0)) H1.out hown1 hgrow⟩
      case measure => simp [intOf]; omega
    · obtain rfl : k = N := by omega
      obtain ⟨Ao, co, rfl, hco, _⟩ := own_shape hap.1
      have ho := Ow.of_own hap.1
      have hbw := hap.2
      clear hap
      go_wp2
      go_ret
      exact ⟨Ao, co, rfl, ho, hbw⟩
end Go.Proofs.Ytahomhldochodaa
