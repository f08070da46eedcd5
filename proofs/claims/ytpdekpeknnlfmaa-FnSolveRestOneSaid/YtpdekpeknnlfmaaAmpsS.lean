/-
  Contracts of the reference's SolveAmps and of what it calls.
-/
import Derived.Test.YtpdekpeknnlfmaaAmpsB
import Derived.Test.YtpdekpeknnlfmaaPhase
import Derived.Test.YtpdekpeknnlfmaaCampA
namespace Go.Proofs.Ytpdekpeknnlfmaa
set_option linter.unusedVariables false
open Go.RowKit
attribute [local go_sem] fieldV0 fieldV1

/-- the reference's number for antenna j: 0 where none follows -/
def ampR1 (ls ms : List (Int × Int)) (f j : Nat) : Int := if j = 0 ∨ dv ls ms f j = true then ampV ls ms f j else 0
def ampR (ls ms : List (Int × Int)) (f N : Nat) : List Int := (List.range N).map (ampR1 ls ms f)
@[simp] theorem ampR_length (ls ms : List (Int × Int)) (f N : Nat) : (ampR ls ms f N).length = N := by simp [ampR]
theorem gi_ampR {ls ms : List (Int × Int)} {f N j : Nat} (h : j < N) : gi (ampR ls ms f N) j = ampR1 ls ms f j := by simp [ampR, gi, h]
theorem ampR_succ (ls ms : List (Int × Int)) (f k : Nat) : ampR ls ms f (k + 1) = ampR ls ms f k ++ [ampR1 ls ms f k] := by simp [ampR, List.range_succ]
theorem ampR_one (ls ms : List (Int × Int)) (f : Nat) : ampR ls ms f 1 = [(f : Int)] := by simp [ampR, ampR1, ampV, List.range_succ]
theorem ampR_yes {ls ms : List (Int × Int)} {f N : Nat} (h : ∀ j, 0 < j → j < N → dv ls ms f j = true) : ampR ls ms f N = ampL ls ms f N := by
  unfold ampR ampL
  refine List.map_congr_left fun j hj => ?_
  rw [List.mem_range] at hj
  unfold ampR1
  by_cases e : j = 0
  · rw [if_pos (.inl e)]
  · rw [if_pos (.inr (h j (by omega) hj))]
theorem ampR1_bd {ls ms : List (Int × Int)} {N f j : Nat} (h1 : visB (N : Int) ls = true) (h2 : visB (N : Int) ms = true) (hf : 1 ≤ f) (hf2 : f < 100) (hj : j < N) : 0 ≤ ampR1 ls ms f j ∧ ampR1 ls ms f j ≤ 99 := by
  unfold ampR1
  by_cases e : j = 0
  · rw [if_pos (.inl e), e]; simp [ampV]; omega
  · by_cases hd : dv ls ms f j = true
    · rw [if_pos (.inr hd)]
      have := dv_parts h1 h2 hf (by omega) hj hd
      omega
    · rw [if_neg (by rintro (x | x); exact e x; exact hd x)]; omega
/-- amplitudes fit exactly if what follows fits -/
theorem fits_ampR {ls ms : List (Int × Int)} {f N : Nat} (h1 : visB (N : Int) ls = true) : fits ls ms (ampR ls ms f N) N = okF ls ms N f := by
  have hN := vis_N h1
  cases hd : dvAll ls ms f N with
  | true => rw [ampR_yes (dvAll_iff.1 hd)]; simp [okF, hd]
  | false =>
    have ho : okF ls ms N f = false := by simp [okF, hd]
    rw [ho]
    have : ¬ ∀ j, 0 < j → j < N → dv ls ms f j = true := fun h => by rw [dvAll_iff.2 h] at hd; cases hd
    rw [Bool.eq_false_iff]
    intro hf
    refine this fun j h0 hj => ?_
    rw [← Bool.not_eq_false]
    intro hx
    obtain ⟨x, y, z⟩ := idx_at hN.2 h0 hj
    have := fits_iff.1 hf _ x
    rw [y, z, gi_ampR (j := j) hj] at this
    rw [show ampR1 ls ms f j = 0 by unfold ampR1; rw [if_neg (by rintro (x | x); omega; rw [hx] at x; cases x)], Int.mul_zero] at this
    have := (vis_at h1 x).1
    omega
/-- numbers in the making, by appends -/
def RowS (w wr : World) (v : Value) (xs : List Int) : Prop := wr.ownsRow w.heap.size 3 1 v xs.length (ints xs) ∧ Below w.heap.size w wr
theorem RowS.keep {w wr w1 : World} {v : Value} {xs : List Int} (h : RowS w wr v xs) (hb : Below wr.heap.size wr w1) : RowS w w1 v xs :=
  ⟨own_same h.1 (fun q hq => hb.block q (h.1.lt q hq).2), h.2.trans (hb.mono h.2.size)⟩
theorem RowS.app {w wr w1 : World} {v v' : Value} {xs : List Int} {z : Int} {o : Obj} {k : Nat} (h : RowS w wr v xs) (hk : k = xs.length + 1) (hown : w1.ownsRow w.heap.size 3 1 v' k (ints xs ++ [.int .i64 z])) (hg : (wr.alloc o).grownBy w1 v.ownBlock) : RowS w w1 v' (xs ++ [z]) :=
  ⟨by subst hk; rw [ints_append, List.length_append]; exact hown, (h.2.alloc h.2.size o).grown hg (base_a h.2.size) (fun q hq => (h.1.lt q hq).1)⟩
def RetR (w : World) (xs : List Int) (e : Ending) (w' : World) : Prop := ∃ A c, e = .returned (.slice A xs.length c) ∧ xs.length ≤ c ∧ Ow w' 3 w.heap.size w'.heap.size A (ints xs) ∧ Below w.heap.size w w'
/-- all baselines before (i, j) fit -/
def FtIJ {N : Nat} (ls ms : List (Int × Int)) (xs : List Int) (i j : Nat) : Prop := ∀ p, p < nb N → (b1 N p < i ∨ (b1 N p = i ∧ b2 N p < j)) → g1 ls p = g1 ms p * gi xs (b1 N p) * gi xs (b2 N p)

set_option maxHeartbeats 2000000 in
theorem l15Others_yes (N f : Nat) (A B : Option Addr) (c d : Nat) (ls ms : List (Int × Int)) (w : World) (hls : Rd w A (pairs ls)) (hms : Rd w B (pairs ms)) (vl : visB (N : Int) ls = true) (vm : visB (N : Int) ms = true) (f1 : 1 ≤ f) (f2 : f < 100) {m m' : Nat} (hm : ls.length = m) (hm' : ms.length = m') :
    Calls Try.prog 49 #[.int .i64 (N : Int), .slice A m c, .slice B m' d, .int .i64 (f : Int)] w (RetR w (ampR ls ms f N)) := by
  subst hm hm'
  obtain ⟨n2, n7⟩ := vis_N vl
  obtain ⟨i0, hi, hz0, hz1, hz2⟩ := info_parts info_int
  have st0 : RowS w (w.alloc (.cells #[.int .i64 (f : Int)] 3)) (.slice (some ⟨w.heap.size, 0, none⟩) 1 1) (ampR ls ms f 1) := by
    refine ⟨?_, (Below.refl _ _).alloc (Nat.le_refl _) _⟩
    have := World.ownsRow_lit (e := 3) (size := 1) (base := w.heap.size) w #[.int .i64 (f : Int)] 1 (Nat.le_refl _) (by simp [maxLen]) rfl
    rw [ampR_one]
    simpa [ints] using this
  have ST0 := Lib.hid st0
  clear st0
  go_enter Try.func49, Try.ntmps49
  go_wp2
  go_loopw [9, 10] (fun v i wr => ∃ k : Nat, 1 ≤ k ∧ k ≤ N ∧ i = .int .i64 k ∧ RowS w wr v (ampR ls ms f k)) (fun _ i _ => N - (intOf i).toNat)
  case atStart => exact ⟨1, Nat.le_refl _, by omega, rfl, ST0.out⟩
  case round =>
    clear ST0
    obtain ⟨k, hk1, hk, rfl, hr⟩ := hrel
    by_cases hlt : k < N
    · have hx := (idx_at n7 (show 0 < k by omega) hlt).1
      have hix := idx_first n7 (show 0 < k by omega) hlt
      have hg := gk_lt (N := N) (show 0 < k by omega)
      rw [hix] at hx hg
      obtain ⟨v11, v12, _⟩ := vis_at vl hx
      obtain ⟨v21, v22, _⟩ := vis_at vm hx
      have i3 : (k : Int) < (N : Int) := by omega
      obtain ⟨D, hD⟩ : ∃ D : Int, D = g1 ms (k - 1) * (f : Int) := ⟨_, rfl⟩
      have hD1 : 1 ≤ D := by rw [hD]; exact mul_pos2 v21 (by omega)
      have hD2 : D ≤ 100000000 := by
        rw [hD]
        have := Int.mul_le_mul v22 (show (f : Int) ≤ 99 by omega) (by omega) (by omega)
        omega
      have HD := Lib.hid hD
      have e2 : g1 ms (k - 1) * (f : Int) = D := hD.symm
      have e1 : IntKind.i64.wrap (g1 ms (k - 1) * (f : Int)) = D := by rw [e2]; exact IntWalk.i64_in _ (by omega)
      obtain ⟨a, ha⟩ : ∃ a : Int, a = g1 ls (k - 1) := ⟨_, rfl⟩
      have HA := Lib.hid ha
      rw [← ha] at v11 v12
      have HG := Lib.hid hg
      clear hD hix hg
      go_wp2_with fail
      refine (l11Get_any N 0 k A c ls wr (hls.below hr.2 (Nat.le_refl _)) vl n2 n7 (by omega) hlt (by omega) rfl).mono ?_
      rintro e w3 ⟨rfl, b3⟩
      rw [HG.out, ← HA.out]
      replace hr := hr.keep b3
      clear b3 ha
      go_wp2_with fail
      refine (l11Get_any N 0 k B d ms w3 (hms.below hr.2 (Nat.le_refl _)) vm n2 n7 (by omega) hlt (by omega) rfl).mono ?_
      rintro e w4 ⟨rfl, b4⟩
      rw [HG.out]
      replace hr := hr.keep b4
      clear b4
      have HR := Lib.hid hr
      have hsz := hr.2.size
      clear hr
      have m0 : 0 ≤ a % D := Int.emod_nonneg _ (by omega)
      have m1 : a % D < D := Int.emod_lt_of_pos _ (by omega)
      have q0 : 0 ≤ a / D := Int.ediv_nonneg (by omega) (by omega)
      have q1 : a / D ≤ a := Int.ediv_le_self _ (by omega)
      have z1 : (D == 0) = false := by simp; omega
      have m1' := Lib.hid (show k + 1 ≤ maxLen by simp [maxLen]; omega)
      have m2' := Lib.hid (show (k + 1) * 8 ≤ 140737488355328 by omega)
      have m3' := fun o => Lib.hid (base_a (o := o) hsz)
      have HLN := Lib.hid (ampR_length ls ms f k)
      have HRo := Lib.hid (show w4.ownsRow w.heap.size 3 1 u9 k (ints (ampR ls ms f k)) by have := HR.out.1; rwa [HLN.out] at this)
      by_cases hd0 : a % D = 0
      · have d0 : (a % D != 0) = false := by simp [hd0]
        by_cases hd1 : 99 < a / D
        · have d1 : decide (99 < a / D) = true := by simpa using hd1
          have HV := Lib.hid (show ampR ls ms f (k + 1) = ampR ls ms f k ++ [0] by
            rw [ampR_succ]; unfold ampR1; rw [if_neg]; rintro (x | x); omega; rw [dv_no2 (by rw [← HD.out, ← HA.out]; exact hd1)] at x; cases x)
          clear hd0 hd1
          go_wp2_with (at_builtin; refine wpList_append_lies _ rfl _ _ 26 rfl w.heap.size 3 i0 (.int .i64 0) 1 8 Try.underlying26 hi hz0 hz1 hz2 rfl (by decide) _ k (ints (ampR ls ms f k)) rfl (HRo.out.alloc _) ⟨w4.heap.size, 0, none⟩ 1 1 [.int .i64 0] rfl rfl (news_a _ _ _) (one_int _) (by decide) m1'.out m2'.out (m3' _).out _ rfl ?_; intro g cap w5 hown1 hgrow hat hlt1)
          go_roundw
          case rel => exact ⟨k + 1, by omega, by omega, by go_num, by rw [HV.out]; exact HR.out.app (by rw [HLN.out]) hown1 hgrow⟩
          case measure => simp [intOf]; omega
        · have d1 : decide (99 < a / D) = false := by simpa using hd1
          have HV := Lib.hid (show ampR ls ms f (k + 1) = ampR ls ms f k ++ [a / D] by
            rw [ampR_succ]; unfold ampR1; rw [if_pos (.inr (dv_mk (by rw [← HD.out, ← HA.out]; exact hd0) (by rw [← HD.out, ← HA.out]; exact hd1)))]; unfold ampV; rw [if_neg (by omega), ← HD.out, ← HA.out])
          have z2 : ¬ D = 0 := by omega
          obtain ⟨_, qq1, qq2⟩ := quo_num (t := a) (g := D) (by omega) (by omega) hD1
          clear hd0 hd1
          go_wp2_with (at_builtin; refine wpList_append_lies _ rfl _ _ 26 rfl w.heap.size 3 i0 (.int .i64 0) 1 8 Try.underlying26 hi hz0 hz1 hz2 rfl (by decide) _ k (ints (ampR ls ms f k)) rfl (HRo.out.alloc _) ⟨w4.heap.size, 0, none⟩ 1 1 [.int .i64 (a / D)] rfl rfl (news_a _ _ _) (one_int _) (by decide) m1'.out m2'.out (m3' _).out _ rfl ?_; intro g cap w5 hown1 hgrow hat hlt1)
          clear qq1 qq2 z2
          go_roundw
          case rel => exact ⟨k + 1, by omega, by omega, by go_num, by rw [HV.out]; exact HR.out.app (by rw [HLN.out]) hown1 hgrow⟩
          case measure => simp [intOf]; omega
      · have d0 : (a % D != 0) = true := by simp [hd0]
        have HV := Lib.hid (show ampR ls ms f (k + 1) = ampR ls ms f k ++ [0] by
          rw [ampR_succ]; unfold ampR1; rw [if_neg]; rintro (x | x); omega; rw [dv_no1 (by rw [← HD.out, ← HA.out]; exact hd0)] at x; cases x)
        clear hd0
        go_wp2_with (at_builtin; refine wpList_append_lies _ rfl _ _ 26 rfl w.heap.size 3 i0 (.int .i64 0) 1 8 Try.underlying26 hi hz0 hz1 hz2 rfl (by decide) _ k (ints (ampR ls ms f k)) rfl (HRo.out.alloc _) ⟨w4.heap.size, 0, none⟩ 1 1 [.int .i64 0] rfl rfl (news_a _ _ _) (one_int _) (by decide) m1'.out m2'.out (m3' _).out _ rfl ?_; intro g cap w5 hown1 hgrow hat hlt1)
        go_roundw
        case rel => exact ⟨k + 1, by omega, by omega, by go_num, by rw [HV.out]; exact HR.out.app (by rw [HLN.out]) hown1 hgrow⟩
        case measure => simp [intOf]; omega
    · obtain rfl : k = N := by omega
      obtain ⟨R, cr, rfl, hc, _⟩ := own_shape hr.1
      have ho := Ow.of_own hr.1
      have hB := hr.2
      clear hr
      simp only [ampR_length] at hc
      go_wp2
      go_ret
      exact ⟨R, cr, by simp, by simpa using hc, ho, hB⟩
set_option maxHeartbeats 2000000 in
theorem l15Amps_yes (N : Nat) (A B C : Option Addr) (c d cc : Nat) (ls ms : List (Int × Int)) (xs : List Int) (w : World) (hls : Rd w A (pairs ls)) (hms : Rd w B (pairs ms)) (hxs : Rd w C (ints xs)) (vl : visB (N : Int) ls = true) (vm : visB (N : Int) ms = true) (hN : xs.length = N) (hx : ∀ j, j < N → 0 ≤ gi xs j ∧ gi xs j ≤ 99) {m m' : Nat} (hm : ls.length = m) (hm' : ms.length = m') :
    Calls Try.prog 50 #[.int .i64 (N : Int), .slice A m c, .slice B m' d, .slice C N cc] w fun e w' => e = .returned (.bool (fits ls ms xs N)) ∧ Below w.heap.size w w' := by
  subst hm hm'
  obtain ⟨n2, n7⟩ := vis_N vl
  go_enter Try.func50, Try.ntmps50
  go_wp2
  go_loopw [9] (fun i wr => ∃ k : Nat, k ≤ N ∧ i = .int .i64 k ∧ FtIJ (N := N) ls ms xs k 0 ∧ Below w.heap.size w wr) (fun i _ => N - (intOf i).toNat)
  case atStart => exact ⟨0, Nat.zero_le _, rfl, fun p hp h => absurd h (by omega), Below.refl _ _⟩
  case round =>
    obtain ⟨k, hk, rfl, hf, hB⟩ := hrel
    by_cases hlt : k < N
    · have i1 : (k : Int) < (N : Int) := by omega
      go_wp2
      go_loopw [10] (fun j wr => ∃ q : Nat, k < q ∧ q ≤ N ∧ j = .int .i64 q ∧ FtIJ (N := N) ls ms xs k q ∧ Below w.heap.size w wr) (fun j _ => N - (intOf j).toNat)
      case atStart => exact ⟨k + 1, by omega, by omega, by go_num, fun p hp h => hf p hp (.inl (by have := bs_at n7 hp; omega)), hB⟩
      case round =>
        clear hf hB
        obtain ⟨q, hkq, hq, rfl, hf, hB⟩ := hrel
        by_cases hqn : q < N
        · have i2 : (q : Int) < (N : Int) := by omega
          obtain ⟨hp, hb1, hb2⟩ := idx_at n7 hkq hqn
          obtain ⟨P, hP⟩ : ∃ P : Nat, P = idx N k q := ⟨_, rfl⟩
          have hg := gk_lt (N := N) hkq
          rw [← hP] at hp hb1 hb2 hg
          obtain ⟨qb, ob, rfl, hqb, a1⟩ := (hxs.below hB (Nat.le_refl _)).int_at (k := k) (by omega)
          obtain ⟨qb', ob', ee, _, a2⟩ := (hxs.below hB (Nat.le_refl _)).int_at (k := q) (by omega)
          injection ee with ee
          injection ee with ee1 ee2
          subst ee1 ee2
          obtain ⟨v11, v12, _⟩ := vis_at vl hp
          obtain ⟨v21, v22, _⟩ := vis_at vm hp
          have s1 := hx k hlt
          have s2 := hx q hqn
          obtain ⟨y1, hy1⟩ : ∃ y : Int, y = gi xs k := ⟨_, rfl⟩
          obtain ⟨y2, hy2⟩ : ∃ y : Int, y = gi xs q := ⟨_, rfl⟩
          obtain ⟨gl, hgl⟩ : ∃ y : Int, y = g1 ls P := ⟨_, rfl⟩
          obtain ⟨gm, hgm⟩ : ∃ y : Int, y = g1 ms P := ⟨_, rfl⟩
          have HY := Lib.hid (And.intro hy1 (And.intro hy2 (And.intro hgl hgm)))
          rw [← hy1] at s1 a1
          rw [← hy2] at s2 a2
          rw [← hgl] at v11 v12
          rw [← hgm] at v21 v22
          have RD1 := Lib.hid (fun (w' : World) (h : Below wr.heap.size wr w') => show Calls Try.prog 61 #[.int .i64 (N : Int), .slice A ls.length c, .int .i64 (k : Int), .int .i64 (q : Int)] w' (fun e w'' => e = .returned (.agg #[.int .i64 gl, .int .i64 (vph ls N k q)]) ∧ Below w'.heap.size w' w'') by
            have := l11Get_any N k q A c ls w' (hls.below (bel_trans hB h) (Nat.le_refl _)) vl n2 n7 hlt hqn (by omega) rfl
            rwa [hg, ← hgl] at this)
          have RD2 := Lib.hid (fun (w' : World) (h : Below wr.heap.size wr w') => show Calls Try.prog 61 #[.int .i64 (N : Int), .slice B ms.length d, .int .i64 (k : Int), .int .i64 (q : Int)] w' (fun e w'' => e = .returned (.agg #[.int .i64 gm, .int .i64 (vph ms N k q)]) ∧ Below w'.heap.size w' w'') by
            have := l11Get_any N k q B d ms w' (hms.below (bel_trans hB h) (Nat.le_refl _)) vm n2 n7 hlt hqn (by omega) rfl
            rwa [hg, ← hgm] at this)
          clear hy1 hy2 hgl hgm hg hP
          obtain ⟨P1, hP1⟩ : ∃ y : Int, y = gm * y1 := ⟨_, rfl⟩
          obtain ⟨P2, hP2⟩ : ∃ y : Int, y = P1 * y2 := ⟨_, rfl⟩
          have p1 : 0 ≤ P1 := by rw [hP1]; exact Int.mul_nonneg (by omega) s1.1
          have p1' : P1 ≤ 99000000 := by
            rw [hP1]
            have := Int.mul_le_mul v22 s1.2 s1.1 (by omega)
            omega
          have p2 : 0 ≤ P2 := by rw [hP2]; exact Int.mul_nonneg p1 s2.1
          have p2' : P2 ≤ 9801000000 := by
            rw [hP2]
            have := Int.mul_le_mul p1' s2.2 s2.1 (by omega)
            omega
          have HP := Lib.hid (And.intro hP1 hP2)
          have e2 : gm * y1 = P1 := hP1.symm
          have e4 : P1 * y2 = P2 := hP2.symm
          have e1 : IntKind.i64.wrap (gm * y1) = P1 := by rw [e2]; exact IntWalk.i64_in _ (by omega)
          have e3 : IntKind.i64.wrap (P1 * y2) = P2 := by rw [e4]; exact IntWalk.i64_in _ (by omega)
          have e5 : IntKind.i64.wrap P1 = P1 := IntWalk.i64_in _ (by omega)
          have e6 : IntKind.i64.wrap P2 = P2 := IntWalk.i64_in _ (by omega)
          clear hP1 hP2
          have KC := Lib.hid (fun (w' : World) (h : Below wr.heap.size wr w') => And.intro (bel_cell h hqb a1) (bel_cell h hqb a2))
          have B0 := Lib.hid ((Below.refl wr.heap.size wr).drew)
          have hst := Lib.hid (show (gl = P2 → FtIJ (N := N) ls ms xs k (q + 1)) ∧ (gl ≠ P2 → fits ls ms xs N = false) from ⟨fun hE p' hp' h => by
            by_cases e : b1 N p' = k ∧ b2 N p' = q
            · have : p' = P := by
                have h1 := gk_lt (N := N) (show b1 N p' < b2 N p' by omega)
                have h2 := (bs_at n7 hp').2.2
                have h3 := (bs_at n7 hp).2.2
                rw [e.1, e.2] at h2
                rw [hb1, hb2] at h3
                omega
              rw [this, hb1, hb2, ← HY.out.2.2.1, ← HY.out.2.2.2, ← HY.out.1, ← HY.out.2.1, ← HP.out.1, ← HP.out.2]
              exact hE
            · exact hf p' hp' (by omega), fun hE => by
            rw [Bool.eq_false_iff]
            intro h
            have := fits_iff.1 h P hp
            rw [hb1, hb2, ← HY.out.2.2.1, ← HY.out.2.2.2, ← HY.out.1, ← HY.out.2.1, ← HP.out.1, ← HP.out.2] at this
            exact hE this⟩)
          clear hf hp hb1 hb2 a1 a2
          have i4 : (k : Int) < (N : Int) := by omega
          go_wp2_with fail
          go_region_held3 (fun w' => w'.cell? ⟨qb, ob + k, none⟩ = some (.int .i64 y1) ∧ w'.cell? ⟨qb, ob + q, none⟩ = some (.int .i64 y2)) (first | exact KC.out _ B2 | exact KC.out _ B1 | exact KC.out _ B0.out | go_keep) ((go_at_call 61; first
            | (with_reducible refine (RD1.out _ B0.out).mono ?_; rintro e wn5 ⟨rfl, b5⟩; have B1 := bel_trans B0.out b5; clear b5)
            | (with_reducible refine (RD2.out _ B1).mono ?_; rintro e wn6 ⟨rfl, b6⟩; have B2 := bel_trans B1 b6; clear b6)))
          obtain ⟨w6, rfl⟩ : ∃ wq : World, wq = wn6 := ⟨_, rfl⟩
          have b6 := bel_trans hB B2
          clear e1 e2 e3 e4 e5 e6 RD1 RD2 KC B0 B1 B2
          by_cases hE : gl = P2
          · have d1 : (gl != P2) = false := by simpa using hE
            have HF := Lib.hid (hst.out.1 hE)
            go_wp2
            go_roundw
            case rel => exact ⟨q + 1, by omega, by omega, by go_num, HF.out, b6⟩
            case measure => simp [intOf]; omega
          · have d1 : (gl != P2) = true := by simpa using hE
            have HF := Lib.hid (hst.out.2 hE)
            go_wp2
            go_ret
            exact ⟨by rw [HF.out]; rfl, b6⟩
        · obtain rfl : q = N := by omega
          have HF := Lib.hid (show FtIJ (N := q) ls ms xs (k + 1) 0 from fun p hp h => hf p hp (by have := bs_at n7 hp; omega))
          clear hf
          go_wp2
          go_roundw
          case rel => exact ⟨k + 1, by omega, by go_num, HF.out, hB⟩
          case measure => simp [intOf]; omega
    · obtain rfl : k = N := by omega
      have HF := Lib.hid (show fits ls ms xs k = true from fits_iff.2 fun p hp => hf p hp (.inl (by have := bs_at n7 hp; omega)))
      clear hf
      go_wp2
      go_ret
      exact ⟨by rw [HF.out]; rfl, hB⟩
end Go.Proofs.Ytpdekpeknnlfmaa
