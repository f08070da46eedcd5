/-
  What is drawn for the rest of phases.
-/
import Derived.Test.YtpdekpeknnlfmaaDrawSolve
import Derived.Test.YtpdekpeknnlfmaaRestS
import Derived.Test.YtpdekpeknnlfmaaAmpsS
namespace Go.Proofs.Ytpdekpeknnlfmaa
set_option linter.unusedVariables false
open Go.RowKit
attribute [local go_sem] fieldV0 fieldV1

/-- some numbers in new memory and whether they are solved -/
def RetS (w : World) (N : Nat) (e : Ending) (w' : World) : Prop :=
  ∃ (A : Option Addr) (c : Nat) (xs : List Int) (b : Bool), e = .returned (.tuple #[.slice A xs.length c, .bool b]) ∧ (b = true → xs.length = N) ∧ xs.length ≤ 50 ∧ xs.length ≤ c ∧ Ow w' 3 w.heap.size w'.heap.size A (ints xs) ∧ Below w.heap.size w w'
theorem Ow.tail1 {w : World} {E : TypeId} {lo hi b off : Nat} {zs : List Int} (h : Ow w E lo hi (some ⟨b, off, none⟩) (ints zs)) : Ow w E lo hi (some ⟨b, off + 1, none⟩) (ints zs.tail) := by
  intro h0
  cases zs with
  | nil => simp [ints] at h0
  | cons p ps =>
    obtain ⟨g, off', cur, e, hlo, hhi, hh, hc⟩ := h (by simp [ints])
    injection e with e
    injection e with e1 e2
    subst e1 e2
    refine ⟨b, off + 1, cur, rfl, hlo, hhi, hh, fun i hi => ?_⟩
    have := hc (i + 1) (by simp [ints] at hi ⊢; omega)
    rw [show off + 1 + i = off + (i + 1) by omega, this]
    simp [ints]
theorem IW.more {w wr : World} {g P Q : Nat} {v : Value} {O : List Int} (h : IW w wr g P v O) (hq : P ≤ Q) : IW w wr g Q v O := ⟨h.1, h.2.1.mono hq, h.2.2⟩

set_option maxHeartbeats 2000000 in
theorem sSolvePhases_any (N : Nat) (A B : Option Addr) (c d : Nat) (ls ms : List (Int × Int)) (w : World) (hls : Rd w A (pairs ls)) (hms : Rd w B (pairs ms)) (l1 : ls.length ≤ 1048592) (l2 : ms.length ≤ 1048592) {m m' : Nat} (hm : ls.length = m) (hm' : ms.length = m') :
    Calls Try.prog 55 #[.int .i64 (N : Int), .slice A m c, .slice B m' d] w (RetS w N) := by
  subst hm hm'
  have BL := Lib.hid ((Below.refl w.heap.size w).alloc (Nat.le_refl _) (.cells #[] 3))
  obtain ⟨i0, hi, hz0, hz1, hz2⟩ := info_parts info_int
  cases v : visB (N : Int) ls && visB (N : Int) ms with
  | false =>
    go_enter Try.func55, Try.ntmps55
    go_wp2_with fail
    refine (l15Two_any _ _ _ _ _ _ _ _ hls hms l1 l2 rfl rfl).mono ?_; rintro e w' ⟨rfl, rfl⟩
    rw [v]
    go_wp2
    go_ret2
    exact ⟨_, _, [], false, rfl, (fun e => by cases e), by simp, Nat.zero_le _, Ow.none_, BL.out⟩
  | true =>
  have v' := v
  rw [Bool.and_eq_true] at v'
  obtain ⟨vl, vm⟩ := v'
  obtain ⟨n2, n7⟩ := vis_N vl
  have st0 : RowS w (w.alloc (.cells #[.int .i64 0] 3)) (.slice (some ⟨w.heap.size, 0, none⟩) 1 1) [0] := by
    refine ⟨?_, (Below.refl _ _).alloc (Nat.le_refl _) _⟩
    have := World.ownsRow_lit (e := 3) (size := 1) (base := w.heap.size) w #[.int .i64 0] 1 (Nat.le_refl _) (by simp [maxLen]) rfl
    simpa [ints] using this
  have ST0 := Lib.hid st0
  clear st0
  go_enter Try.func55, Try.ntmps55
  go_wp2_with fail
  refine (l15Two_any _ _ _ _ _ _ _ _ hls hms l1 l2 rfl rfl).mono ?_; rintro e w' ⟨rfl, rfl⟩
  rw [v]
  clear v
  go_wp2
  go_loopw [8, 9] (fun u i wr => ∃ (k : Nat) (xs : List Int), 1 ≤ k ∧ k ≤ N ∧ i = .int .i64 k ∧ xs.length = k ∧ RowS w wr u xs) (fun _ i _ => N - (intOf i).toNat)
  case atStart => exact ⟨1, [0], Nat.le_refl _, by omega, rfl, rfl, ST0.out⟩
  case round =>
    clear ST0
    obtain ⟨k, xs, hk1, hk, rfl, hxl, hr⟩ := hrel
    by_cases hlt : k < N
    · have hx := (idx_at n7 (show 0 < k by omega) hlt).1
      have hg := gk_lt (N := N) (show 0 < k by omega)
      rw [← hg] at hx
      obtain ⟨_, _, t1, t2⟩ := vis_at vl hx
      obtain ⟨_, _, t3, t4⟩ := vis_at vm hx
      have i3 : (k : Int) < (N : Int) := by omega
      have HX := Lib.hid hxl
      clear hg
      go_wp2_with fail
      refine (l11Get_any N 0 k A c ls wr (hls.below hr.2 (Nat.le_refl _)) vl n2 n7 (by omega) hlt (by omega) rfl).mono ?_
      rintro e w3 ⟨rfl, b3⟩
      rw [vph_lt (show 0 < k by omega)]
      replace hr := hr.keep b3
      clear b3
      go_wp2_with fail
      refine (l11Get_any N 0 k B d ms w3 (hms.below hr.2 (Nat.le_refl _)) vm n2 n7 (by omega) hlt (by omega) rfl).mono ?_
      rintro e w4 ⟨rfl, b4⟩
      rw [vph_lt (show 0 < k by omega)]
      replace hr := hr.keep b4
      clear b4
      generalize g2 ls (gk N 0 k) = a at *
      generalize g2 ms (gk N 0 k) = b at *
      have w1' : IntKind.i64.wrap (a - b) = a - b := IntWalk.i64_in _ (by omega)
      go_wp2_with fail
      refine (sPhaseOf_any _ _).mono ?_; rintro e w' ⟨rfl, rfl⟩
      have HR := Lib.hid hr
      have hsz := hr.2.size
      have HRo := Lib.hid (show w4.ownsRow w.heap.size 3 1 u8 k (ints xs) by have := hr.1; rwa [hxl] at this)
      have m1' := Lib.hid (show k + 1 ≤ maxLen by simp [maxLen]; omega)
      have m2' := Lib.hid (show (k + 1) * 8 ≤ 140737488355328 by omega)
      have m3' := fun o => Lib.hid (base_a (o := o) hsz)
      clear hr w1' hxl
      go_wp2_with (at_builtin; refine wpList_append_lies _ rfl _ _ 26 rfl w.heap.size 3 i0 (.int .i64 0) 1 8 Try.underlying26 hi hz0 hz1 hz2 rfl (by decide) _ k (ints xs) rfl (HRo.out.alloc _) ⟨w4.heap.size, 0, none⟩ 1 1 [.int .i64 ((a - b) % 360)] rfl rfl (news_a _ _ _) (one_int _) (by decide) m1'.out m2'.out (m3' _).out _ rfl ?_; intro g cap w5 hown1 hgrow hat hlt1)
      go_roundw
      case rel => exact ⟨k + 1, xs ++ [(a - b) % 360], by omega, by omega, by go_num, by rw [List.length_append, HX.out]; rfl, HR.out.app (by rw [HX.out]) hown1 hgrow⟩
      case measure => simp [intOf]; omega
    · obtain rfl : k = N := by omega
      obtain ⟨R, cr, e, hc, _⟩ := own_shape hr.1
      subst e
      have ho := Ow.of_own hr.1
      have hB := hr.2
      have HX := Lib.hid hxl
      have hx50 : xs.length ≤ 50 := by omega
      clear hr hxl
      go_wp2_with fail
      refine (sSolveRest_any _ A B R c d cr ls ms xs wr (hls.below hB (Nat.le_refl _)) (hms.below hB (Nat.le_refl _)) ho.rd l1 l2 (by omega) rfl rfl rfl).mono ?_
      rintro e w6 ⟨rfl, b6⟩
      have hB6 := bel_trans hB b6
      have ho6 := ho.below b6 (Nat.le_refl _)
      have s6 := b6.size
      have HB7 := Lib.hid (hB6.alloc hB6.size (.cells #[] 3))
      clear b6 ho
      by_cases hz : solveRest (k : Int) ls ms xs = 0
      · have hz' : (solveRest (k : Int) ls ms xs != 0) = false := by simp [hz]
        go_wp2
        go_ret2
        exact ⟨R, cr, xs, true, rfl, fun _ => HX.out, hx50, hc, ho6.mono (Nat.le_refl _) s6, hB6⟩
      · have hz' : (solveRest (k : Int) ls ms xs != 0) = true := by simp [hz]
        go_wp2
        go_ret2
        exact ⟨_, _, [], false, rfl, (fun e => by cases e), by simp, Nat.zero_le _, Ow.none_, HB7.out⟩
/-- what is drawn for the rest of phases -/
def DrewR (w : World) (e : Ending) (w' : World) : Prop :=
  ∃ (N : Nat) (A B C : Option Addr) (c d cc : Nat) (as_ bs : List (Int × Int)) (ph : List Int), e = .returned (.tuple #[.int .i64 (N : Int), .slice A as_.length c, .slice B bs.length d, .slice C ph.length cc]) ∧ 2 ≤ N ∧ N ≤ 6 ∧ as_.length ≤ 50 ∧ bs.length ≤ 50 ∧ ph.length ≤ 50 ∧ ph.length ≤ cc ∧
    Ow w' 32 w.heap.size w'.heap.size A (pairs as_) ∧ Ow w' 32 w.heap.size w'.heap.size B (pairs bs) ∧ Ow w' 3 w.heap.size w'.heap.size C (ints ph) ∧ Below w.heap.size w w'
set_option maxHeartbeats 4000000 in
theorem DrawSolveRest_any (A : Option Addr) (n c : Nat) (w : World) (h : Bytes w A n w.heap.size) (hc : n ≤ c) : Calls Try.prog 21 #[.slice A n c] w (DrewR w) := by
  obtain ⟨i0, hi, hz0, hz1, hz2⟩ := info_parts info_int
  go_enter Try.func21, Try.ntmps21
  go_wp2_with fail
  refine (l6Open_any _ _ _ _ h hc).mono ?_
  rintro e w1 ⟨rfl, hr, hb⟩
  have s1 := hb.size
  have hlt := hr.lt
  go_wp2_with fail
  refine (l92Applied_any _ _ 2 _ hr (by omega) (by omega) (by omega)).mono ?_
  rintro e w2 ⟨N, A1, A2, c1, c2, ps, qs, rfl, n2, n6, l1, l2, k2, oa, ob, hr2, ho2⟩
  have s2 := ho2.size
  replace hb := ho2.below hb (Nat.le_refl _) (Nat.le_refl _)
  clear ho2 hr
  go_wp2_with fail
  refine (sSolvePhases_any N A1 A2 c1 c2 ps qs w2 oa.rd ob.rd (by omega) (by omega) rfl rfl).mono ?_
  rintro e w3 ⟨A3, c3, xs, b, rfl, hxl, hx50, hxc, ox, b3⟩
  have s3 := b3.size
  replace oa := oa.below b3 (Nat.le_refl _)
  replace ob := ob.below b3 (Nat.le_refl _)
  replace hr2 := hr2.below b3 (by omega)
  replace hb := bel_trans hb b3
  clear b3
  cases b with
  | false =>
    clear ox hxl
    obtain ⟨wx, rfl⟩ : ∃ wq : World, wq = w3 := ⟨_, rfl⟩
    have hr := hr2.mono (show _ ≤ 700 by omega)
    have hg := hr.lt
    have hst := Lib.hid (IW.start hr)
    have sx : w.heap.size + 1 ≤ wx.heap.size := by omega
    have OA := Lib.hid oa
    have OB := Lib.hid ob
    have HBB := Lib.hid hb
    clear oa ob hb hr2 hr
    go_wp2
    go_loopw [13, 14] (fun v i wr => ∃ O : List Int, O.length ≤ N ∧ i = .int .i64 (O.length : Int) ∧ IW wx wr w.heap.size (700 + 4 * O.length) v O) (fun _ i _ => N - (intOf i).toNat)
    case atStart => exact ⟨[], Nat.zero_le _, rfl, hst.out⟩
    case round =>
      clear hst
      obtain ⟨O, hk, rfl, hv⟩ := hrel
      by_cases hlt2 : O.length < N
      · have HV := Lib.hid hv
        have j1 : (O.length : Int) < (N : Int) := by omega
        clear hv
        go_wp2_with fail
        refine (l91Phase_any _ _ _ HV.out.2.1 (by omega)).mono ?_
        rintro e w7 ⟨y, rfl, y0, y1, hr7, ho7⟩
        have H2 := Lib.hid (HV.out.pick hg hr7 ho7)
        clear HV hr7 ho7
        have m1 := Lib.hid (show O.length + 1 ≤ maxLen by simp [maxLen]; omega)
        have m2 := Lib.hid (show (O.length + 1) * 8 ≤ 140737488355328 by omega)
        have m3 := Lib.hid (base_a (o := .cells #[.int .i64 y] 3) H2.out.2.2.size)
        go_wp2_with (at_builtin; refine wpList_append_lies _ rfl _ _ 26 rfl wx.heap.size 3 i0 (.int .i64 0) 1 8 Try.underlying26 hi hz0 hz1 hz2 rfl (by decide) _ O.length (ints O) rfl (H2.out.1.alloc _) ⟨w7.heap.size, 0, none⟩ 1 1 [.int .i64 y] rfl rfl (news_a _ _ _) (one_int _) (by decide) m1.out m2.out m3.out _ rfl ?_; intro g' cap w8 hown1 hgrow hat hlt1)
        have H3 := Lib.hid ((H2.out.app hg rfl hown1 hgrow).more (show 700 + 4 * O.length + 3 ≤ 700 + 4 * (O ++ [y]).length by simp; omega))
        clear hown1 hgrow hat hlt1 H2
        go_roundw
        case rel => exact ⟨O ++ [y], by simp; omega, by simp, H3.out⟩
        case measure => simp [intOf]; omega
      · have el : O.length = N := by omega
        have EL := Lib.hid el
        have j1 : ¬ (O.length : Int) < (N : Int) := by omega
        have ol2 : 2 ≤ O.length := by omega
        have ol6 : O.length ≤ 6 := by omega
        obtain ⟨gq, cap, rfl, hcap, hcm, hgq1, hgq2⟩ := own_rows hv.1 (by omega)
        have hvr := hv.2.1.mono (show 700 + 4 * O.length ≤ 800 by omega)
        have hvo := hv.2.2
        have o := Ow.of_own hv.1
        have sv := hvo.size
        have oa := OA.out.only hvo (.inr (by omega))
        have ob := OB.out.only hvo (.inr (by omega))
        have hb := hvo.below HBB.out (Nat.le_refl _) (by omega)
        clear hv hvo el OA OB HBB
        go_wp2_with fail
        refine (pick_any _ _ 12 _ hvr (by omega) (by omega)).mono ?_
        rintro e w9 ⟨z, rfl, z0, z1, hr9, ho9, hs9⟩
        have s9 := ho9.size
        replace o := o.only ho9 (.inr (by omega))
        replace oa := oa.only ho9 (.inr (by omega))
        replace ob := ob.only ho9 (.inr (by omega))
        replace hb := ho9.below hb (Nat.le_refl _) (by omega)
        clear ho9 hr9 hvr hs9 z1
        have i1 : (1 : Int) ≤ (cap : Int) := by omega
        have i2 : (1 : Int) ≤ (O.length : Int) := by omega
        have i3 : ¬ cap = 1 := by omega
        have i4 : ¬ (1 : Int) = (cap : Int) := by omega
        unfold maxLen at hcm
        have OO := Lib.hid o
        have O1 := Lib.hid (o.tail1)
        obtain ⟨b', off', e', q1, q2, q3, c0, f0, st0⟩ := set_int (w0 := w) (g := 0) o (k := 0) (by omega)
        injection e' with e'
        injection e' with e1 e2
        subst e1 e2
        simp only [Nat.add_zero] at c0 f0 st0
        have ST0 := Lib.hid (st0 360)
        have i5 : (0 : Int) < (O.length : Int) := by omega
        have BA := Lib.hid (hb.setCell (p := ⟨gq, 0, none⟩) (by show w.heap.size ≤ gq; omega) (.int .i64 360))
        have OA2 := Lib.hid (oa.only ((Only.refl w9 gq (gq + 1)).setCell (p := ⟨gq, 0, none⟩) (Nat.le_refl _) (by simp) (.int .i64 360)) (.inl (by omega)))
        have OB2 := Lib.hid (ob.only ((Only.refl w9 gq (gq + 1)).setCell (p := ⟨gq, 0, none⟩) (Nat.le_refl _) (by simp) (.int .i64 360)) (.inl (by omega)))
        have OA1 := Lib.hid oa
        have OB1 := Lib.hid ob
        have HB1 := Lib.hid hb
        clear st0 o oa ob hb
        by_cases hx0 : z = 0
        · subst hx0
          go_wp2
          exact bodyPost_ret (v := .tuple #[.int .i64 (N : Int), .slice A1 ps.length c1, .slice A2 qs.length c2, .slice (some ⟨gq, 0, none⟩) O.length cap]) (by simp [results, Try.results21, go_sem]) rfl ⟨N, A1, A2, _, c1, c2, cap, ps, qs, O.set 0 360, by rw [List.length_set], n2, n6, l2, k2, by simp; omega, by simp; omega, OA2.out.mono (by omega) (by simp [World.setCell]; omega), OB2.out.mono (by omega) (by simp [World.setCell]; omega), ST0.out.mono (by omega) (by simp [World.setCell]; omega), BA.out⟩
        by_cases hx1 : z = 1
        · subst hx1
          go_wp2
          exact bodyPost_ret (v := .tuple #[.int .i64 (N : Int), .slice A1 ps.length c1, .slice A2 qs.length c2, .slice (some ⟨gq, 1, none⟩) (O.length - 1) (cap - 1)]) (by simp [results, Try.results21, go_sem]) rfl ⟨N, A1, A2, some ⟨gq, 1, none⟩, c1, c2, cap - 1, ps, qs, O.tail, by simp, n2, n6, l2, k2, by simp; omega, by simp; omega, OA1.out.mono (by omega) (by omega), OB1.out.mono (by omega) (by omega), O1.out.mono (by omega) (by omega), HB1.out⟩
        · have d0 : (z == 0) = false := by simp [hx0]
          have d1 : (z == 1) = false := by simp [hx1]
          go_wp2
          exact bodyPost_ret (v := .tuple #[.int .i64 (N : Int), .slice A1 ps.length c1, .slice A2 qs.length c2, .slice (some ⟨gq, 0, none⟩) O.length cap]) (by simp [results, Try.results21, go_sem]) rfl ⟨N, A1, A2, _, c1, c2, cap, ps, qs, O, rfl, n2, n6, l2, k2, by omega, hcap, OA1.out.mono (by omega) (by omega), OB1.out.mono (by omega) (by omega), OO.out.mono (by omega) (by omega), HB1.out⟩
  | true =>
    have hxn := hxl rfl
    clear hxl
    go_wp2_with fail
    refine (pick_any _ _ 3 _ hr2 (by omega) (by omega)).mono ?_
    rintro e w4 ⟨x, rfl, x0, x1, hr4, ho4, hs4⟩
    have s4 := ho4.size
    replace oa := oa.only ho4 (.inr (by omega))
    replace ob := ob.only ho4 (.inr (by omega))
    replace ox := ox.only ho4 (.inr (by omega))
    replace hb := ho4.below hb (Nat.le_refl _) (Nat.le_refl _)
    clear ho4 hr2 hs4 x1
    by_cases hx : 0 < x
    · have hx' : decide (0 < x) = true := by simp [hx]
      go_wp2_with fail
      refine (pick_any _ _ _ _ hr4 (by omega) (by omega)).mono ?_
      rintro e w5 ⟨k, rfl, k0, k1, hr5, ho5, hs5⟩
      have s5 := ho5.size
      have k2' := k1 (by omega)
      obtain ⟨k, rfl⟩ := Int.eq_ofNat_of_zero_le k0
      replace oa := oa.only ho5 (.inr (by omega))
      replace ob := ob.only ho5 (.inr (by omega))
      replace ox := ox.only ho5 (.inr (by omega))
      replace hb := ho5.below hb (Nat.le_refl _) (Nat.le_refl _)
      clear ho5 hr4 hs5 k1
      obtain ⟨bx, off, rfl, _, _, _, cx, fx, _⟩ := set_int (w0 := w) (g := 0) ox (k := k) (by omega)
      have i1 : (k : Int) < (xs.length : Int) := by omega
      have OX := Lib.hid ox
      have OA := Lib.hid oa
      have OB := Lib.hid ob
      have HBB := Lib.hid hb
      have hrD : Rdr w5.drew w.heap.size (600 + 1 + 1) := hr5.mono (by omega)
      clear ox oa ob hb hr5
      go_wp2
      go_region_with ((first
        | (go_at_call 45; (with_reducible refine (pick_any _ _ 5 _ hrD (by omega) (by omega)).mono ?_); rintro e w6 ⟨y, rfl, y0, y1, hr6, ho6, hs6⟩; have ox6 := OX.out.only (show Only w5 w6 w.heap.size (w.heap.size + 1) from ho6) (.inr (by omega)); obtain ⟨bx', off', e6, p1, p2, p3, cx6, fx6, st6⟩ := set_int (w0 := w) (g := 0) ox6 (k := k) (by omega); injection e6 with e6; injection e6 with e61 e62; subst e61 e62; have ST6 := Lib.hid st6; clear st6 hs6 y1)
        | (go_at_call 56; (with_reducible refine (sPhaseOf_any _ _).mono ?_); rintro e w7 ⟨rfl, rfl⟩)))
      all_goals
        have s6 : w5.heap.size ≤ w6.heap.size := ho6.size
        have oa6 := OA.out.only (show Only w5 w6 w.heap.size (w.heap.size + 1) from ho6) (.inr (by omega))
        have ob6 := OB.out.only (show Only w5 w6 w.heap.size (w.heap.size + 1) from ho6) (.inr (by omega))
        have hb6 := (show Only w5 w6 w.heap.size (w.heap.size + 1) from ho6).below HBB.out (Nat.le_refl _) (Nat.le_refl _)
        have oas := Lib.hid (oa6.only ((Only.refl w6 bx (bx + 1)).setCell (p := ⟨bx, off + k, none⟩) (Nat.le_refl _) (by simp) (.int .i64 (IntKind.i64.wrap (gi xs k + y) % 360))) (.inl (by omega)))
        have obs := Lib.hid (ob6.only ((Only.refl w6 bx (bx + 1)).setCell (p := ⟨bx, off + k, none⟩) (Nat.le_refl _) (by simp) (.int .i64 (IntKind.i64.wrap (gi xs k + y) % 360))) (.inl (by omega)))
        have oxs := Lib.hid (ST6.out (IntKind.i64.wrap (gi xs k + y) % 360))
        have hbs := Lib.hid (hb6.setCell (p := ⟨bx, off + k, none⟩) (by show w.heap.size ≤ bx; omega) (.int .i64 (IntKind.i64.wrap (gi xs k + y) % 360)))
        clear oa6 ob6 hb6 ST6
        go_wp2
        exact bodyPost_ret (v := .tuple #[.int .i64 (N : Int), .slice A1 ps.length c1, .slice A2 qs.length c2, .slice (some ⟨bx, off, none⟩) xs.length c3]) (by simp [results, Try.results21, go_sem, hxn]) rfl ⟨N, A1, A2, _, c1, c2, c3, ps, qs, xs.set k (IntKind.i64.wrap (gi xs k + y) % 360), by rw [List.length_set], n2, n6, l2, k2, by simp; omega, by simp; omega, oas.out.mono (by omega) (by simp [World.setCell]; omega), obs.out.mono (by omega) (by simp [World.setCell]; omega), oxs.out.mono (by omega) (by simp [World.setCell]; omega), hbs.out⟩
    · have hx' : decide (0 < x) = false := by simp [hx]
      clear ox
      obtain ⟨wx, rfl⟩ : ∃ wq : World, wq = w4 := ⟨_, rfl⟩
      have hr := hr4.mono (show _ ≤ 700 by omega)
      have hg := hr.lt
      have hst := Lib.hid (IW.start hr)
      have sx : w.heap.size + 1 ≤ wx.heap.size := by omega
      have OA := Lib.hid oa
      have OB := Lib.hid ob
      have HBB := Lib.hid hb
      clear oa ob hb hr4 hr
      go_wp2
      go_loopw [13, 14] (fun v i wr => ∃ O : List Int, O.length ≤ N ∧ i = .int .i64 (O.length : Int) ∧ IW wx wr w.heap.size (700 + 4 * O.length) v O) (fun _ i _ => N - (intOf i).toNat)
      case atStart => exact ⟨[], Nat.zero_le _, rfl, hst.out⟩
      case round =>
        clear hst
        obtain ⟨O, hk, rfl, hv⟩ := hrel
        by_cases hlt2 : O.length < N
        · have HV := Lib.hid hv
          have j1 : (O.length : Int) < (N : Int) := by omega
          clear hv
          go_wp2_with fail
          refine (l91Phase_any _ _ _ HV.out.2.1 (by omega)).mono ?_
          rintro e w7 ⟨y, rfl, y0, y1, hr7, ho7⟩
          have H2 := Lib.hid (HV.out.pick hg hr7 ho7)
          clear HV hr7 ho7
          have m1 := Lib.hid (show O.length + 1 ≤ maxLen by simp [maxLen]; omega)
          have m2 := Lib.hid (show (O.length + 1) * 8 ≤ 140737488355328 by omega)
          have m3 := Lib.hid (base_a (o := .cells #[.int .i64 y] 3) H2.out.2.2.size)
          go_wp2_with (at_builtin; refine wpList_append_lies _ rfl _ _ 26 rfl wx.heap.size 3 i0 (.int .i64 0) 1 8 Try.underlying26 hi hz0 hz1 hz2 rfl (by decide) _ O.length (ints O) rfl (H2.out.1.alloc _) ⟨w7.heap.size, 0, none⟩ 1 1 [.int .i64 y] rfl rfl (news_a _ _ _) (one_int _) (by decide) m1.out m2.out m3.out _ rfl ?_; intro g' cap w8 hown1 hgrow hat hlt1)
          have H3 := Lib.hid ((H2.out.app hg rfl hown1 hgrow).more (show 700 + 4 * O.length + 3 ≤ 700 + 4 * (O ++ [y]).length by simp; omega))
          clear hown1 hgrow hat hlt1 H2
          go_roundw
          case rel => exact ⟨O ++ [y], by simp; omega, by simp, H3.out⟩
          case measure => simp [intOf]; omega
        · have el : O.length = N := by omega
          have EL := Lib.hid el
          have j1 : ¬ (O.length : Int) < (N : Int) := by omega
          have ol2 : 2 ≤ O.length := by omega
          have ol6 : O.length ≤ 6 := by omega
          obtain ⟨gq, cap, rfl, hcap, hcm, hgq1, hgq2⟩ := own_rows hv.1 (by omega)
          have hvr := hv.2.1.mono (show 700 + 4 * O.length ≤ 800 by omega)
          have hvo := hv.2.2
          have o := Ow.of_own hv.1
          have sv := hvo.size
          have oa := OA.out.only hvo (.inr (by omega))
          have ob := OB.out.only hvo (.inr (by omega))
          have hb := hvo.below HBB.out (Nat.le_refl _) (by omega)
          clear hv hvo el OA OB HBB
          go_wp2_with fail
          refine (pick_any _ _ 12 _ hvr (by omega) (by omega)).mono ?_
          rintro e w9 ⟨z, rfl, z0, z1, hr9, ho9, hs9⟩
          have s9 := ho9.size
          replace o := o.only ho9 (.inr (by omega))
          replace oa := oa.only ho9 (.inr (by omega))
          replace ob := ob.only ho9 (.inr (by omega))
          replace hb := ho9.below hb (Nat.le_refl _) (by omega)
          clear ho9 hr9 hvr hs9 z1
          have i1 : (1 : Int) ≤ (cap : Int) := by omega
          have i2 : (1 : Int) ≤ (O.length : Int) := by omega
          have i3 : ¬ cap = 1 := by omega
          have i4 : ¬ (1 : Int) = (cap : Int) := by omega
          unfold maxLen at hcm
          have OO := Lib.hid o
          have O1 := Lib.hid (o.tail1)
          obtain ⟨b', off', e', q1, q2, q3, c0, f0, st0⟩ := set_int (w0 := w) (g := 0) o (k := 0) (by omega)
          injection e' with e'
          injection e' with e1 e2
          subst e1 e2
          simp only [Nat.add_zero] at c0 f0 st0
          have ST0 := Lib.hid (st0 360)
          have i5 : (0 : Int) < (O.length : Int) := by omega
          have BA := Lib.hid (hb.setCell (p := ⟨gq, 0, none⟩) (by show w.heap.size ≤ gq; omega) (.int .i64 360))
          have OA2 := Lib.hid (oa.only ((Only.refl w9 gq (gq + 1)).setCell (p := ⟨gq, 0, none⟩) (Nat.le_refl _) (by simp) (.int .i64 360)) (.inl (by omega)))
          have OB2 := Lib.hid (ob.only ((Only.refl w9 gq (gq + 1)).setCell (p := ⟨gq, 0, none⟩) (Nat.le_refl _) (by simp) (.int .i64 360)) (.inl (by omega)))
          have OA1 := Lib.hid oa
          have OB1 := Lib.hid ob
          have HB1 := Lib.hid hb
          clear st0 o oa ob hb
          by_cases hx0 : z = 0
          · subst hx0
            go_wp2
            exact bodyPost_ret (v := .tuple #[.int .i64 (N : Int), .slice A1 ps.length c1, .slice A2 qs.length c2, .slice (some ⟨gq, 0, none⟩) O.length cap]) (by simp [results, Try.results21, go_sem]) rfl ⟨N, A1, A2, _, c1, c2, cap, ps, qs, O.set 0 360, by rw [List.length_set], n2, n6, l2, k2, by simp; omega, by simp; omega, OA2.out.mono (by omega) (by simp [World.setCell]; omega), OB2.out.mono (by omega) (by simp [World.setCell]; omega), ST0.out.mono (by omega) (by simp [World.setCell]; omega), BA.out⟩
          by_cases hx1 : z = 1
          · subst hx1
            go_wp2
            exact bodyPost_ret (v := .tuple #[.int .i64 (N : Int), .slice A1 ps.length c1, .slice A2 qs.length c2, .slice (some ⟨gq, 1, none⟩) (O.length - 1) (cap - 1)]) (by simp [results, Try.results21, go_sem]) rfl ⟨N, A1, A2, some ⟨gq, 1, none⟩, c1, c2, cap - 1, ps, qs, O.tail, by simp, n2, n6, l2, k2, by simp; omega, by simp; omega, OA1.out.mono (by omega) (by omega), OB1.out.mono (by omega) (by omega), O1.out.mono (by omega) (by omega), HB1.out⟩
          · have d0 : (z == 0) = false := by simp [hx0]
            have d1 : (z == 1) = false := by simp [hx1]
            go_wp2
            exact bodyPost_ret (v := .tuple #[.int .i64 (N : Int), .slice A1 ps.length c1, .slice A2 qs.length c2, .slice (some ⟨gq, 0, none⟩) O.length cap]) (by simp [results, Try.results21, go_sem]) rfl ⟨N, A1, A2, _, c1, c2, cap, ps, qs, O, rfl, n2, n6, l2, k2, by omega, hcap, OA1.out.mono (by omega) (by omega), OB1.out.mono (by omega) (by omega), OO.out.mono (by omega) (by omega), HB1.out⟩
end Go.Proofs.Ytpdekpeknnlfmaa
