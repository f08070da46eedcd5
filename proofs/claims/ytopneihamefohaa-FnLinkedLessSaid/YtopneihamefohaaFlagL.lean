/-
  Contracts of FlagLinked and FlagLoops, of the program and of the reference, for all arguments.
-/
import Derived.Test.YtopneihamefohaaFlagA
namespace Go.Proofs.Ytopneihamefohaa
set_option linter.unusedVariables false
open Go.RowKit

theorem linkL_mk_n {n : Int} {fl : List Bool} (h : flB n fl = true) : linkL n fl = natL n.toNat (lab n.toNat fl) := by simp [linkL, h]
theorem sFlagLinked_any (n : Int) (A : Option Addr) (c : Nat) (fl : List Bool) (w : World) (h : Rd w A (bools fl)) (hl : fl.length ≤ 1048592) {m : Nat} (hm : fl.length = m) :
    Calls Try.prog 19 #[.int .i64 n, .slice A m c] w (RetI w (linkL n fl)) := by
  subst hm
  cases hf : flB n fl with
  | true =>
    obtain ⟨N, rfl, _, _, _⟩ := flB_ok hf
    exact sFlagLinked_yes N A c fl w h hf rfl
  | false =>
    rw [linkL_no hf]
    go_enter Try.func19, Try.ntmps19
    go_wp2_with fail
    refine (l16Ok_any _ _ _ _ _ rfl hl).mono ?_; rintro e w' ⟨rfl, rfl⟩
    rw [hf]
    go_wp2
    go_ret
    exact ⟨_, _, rfl, Nat.le_refl _, Ow.none_, (Below.refl _ _).alloc (Nat.le_refl _) _⟩
set_option maxHeartbeats 1000000 in
theorem FlagLinked_any (n : Int) (A : Option Addr) (c : Nat) (fl : List Bool) (w : World) (h : Rd w A (bools fl)) (hl : fl.length ≤ 1048592) {m : Nat} (hm : fl.length = m) :
    Calls Try.prog 21 #[.int .i64 n, .slice A m c] w (RetN w (linkL n fl)) := by
  subst hm
  cases hf : flB n fl with
  | true =>
    obtain ⟨N, rfl, _, _, _⟩ := flB_ok hf
    exact FlagLinked_yes N A c fl w h hf rfl
  | false =>
    rw [linkL_no hf]
    obtain ⟨W0, hW0⟩ : ∃ W0 : World, W0 = (w.alloc (.cells #[.int .i64 n] 3)).alloc (.cells #[.slice A fl.length c] 27) := ⟨_, rfl⟩
    have bw : Below w.heap.size w W0 := by rw [hW0]; exact ((Below.refl _ _).alloc (Nat.le_refl _) _).alloc (by simp) _
    have x1 : Boxed W0 w.heap.size 3 (.int .i64 n) := by rw [hW0]; exact (Boxed.new w _ _).alloc _
    have x2 : Boxed W0 (w.heap.size + 1) 27 (.slice A fl.length c) := by rw [hW0]; have := Boxed.new (w.alloc (.cells #[.int .i64 n] 3)) 27 (.slice A fl.length c); simpa using this
    have c1 := x1.cell
    have c2 := x2.cell
    have HQ1 := Lib.hid (quiet_of_w (isMany_any n))
    have HQ2 := Lib.hid (quiet_of_w (BaseMany_any n))
    have fin : ∀ nq, RetN w [] (.returned (.slice none 0 0)) (W0.drewN nq) := fun nq => ⟨none, 0, rfl, Nat.le_refl _, fun _ => ⟨rfl, rfl⟩, fun e => absurd rfl e, Ow.none_, below_drewN bw _⟩
    have FIN := Lib.hid fin
    clear fin x1 x2 bw
    cases h1 : manyB n with
    | false =>
      clear hf
      go_enter Try.func21, Try.ntmps21
      go_wp2_with fail
      rw [← hW0]
      go_quiet ((first | (go_at_call 49; exact HQ1.out _) | (go_at_call 18; exact HQ2.out _)))
      go_wp2
      go_ret
      exact FIN.out _
    | true =>
      have hb : (((fl.length : Nat) : Int) != bm n) = true := by simp [flB, h1] at hf; simpa using hf
      clear hf
      go_enter Try.func21, Try.ntmps21
      go_wp2_with fail
      rw [← hW0]
      go_quiet ((first | (go_at_call 49; exact HQ1.out _) | (go_at_call 18; exact HQ2.out _)))
      go_wp2
      go_ret
      exact FIN.out _

theorem roots_step (L : Nat → Nat) (k : Nat) : (L k = k → roots L (k + 1) = roots L k + 1) ∧ (L k ≠ k → roots L (k + 1) = roots L k) := by
  constructor
  · intro h; simp [roots, h]
  · intro h; simp [roots, h]
theorem gd_step (fl : List Bool) (k : Nat) : (gb fl k = false → gd fl (k + 1) = gd fl k + 1) ∧ (gb fl k = true → gd fl (k + 1) = gd fl k) := by
  constructor
  · intro h; simp [gd, h]
  · intro h; simp [gd, h]
set_option maxHeartbeats 1000000 in
theorem FlagLoops_any (n : Int) (A : Option Addr) (c : Nat) (fl : List Bool) (w : World) (h : Rd w A (bools fl)) (hl : fl.length ≤ 1048592) {m : Nat} (hm : fl.length = m) :
    Calls Try.prog 30 #[.int .i64 n, .slice A m c] w fun e w' => e = .returned (.int .i64 (flagLoops n fl)) ∧ Below w.heap.size w w' := by
  subst hm
  cases hf : flB n fl with
  | false =>
    rw [loops_no hf]
    have HF := Lib.hid (linkL_no hf)
    go_enter Try.func30, Try.ntmps30
    go_wp2_with fail
    refine (FlagLinked_any _ _ _ _ _ h hl rfl).mono ?_
    rintro e w1 ⟨A1, c1, rfl, l1, n1, _, o1, b1⟩
    obtain ⟨rfl, rfl⟩ := n1 HF.out
    rw [HF.out]
    have hq : ∀ w : World, (binOp .eql 28 (.slice none 0 0) (.slice none 0 0)).run Try.prog w = .ok (.bool true) w := fun w => run_eql_nil_slice w _ _ none 0 0 0 0 Try.underlying28
    clear n1 o1 l1
    go_wp2
    go_ret
    exact ⟨rfl, b1⟩
  | true =>
    obtain ⟨N, rfl, n2, n7, hlen⟩ := flB_ok hf
    have hnb := nb_le n7
    have hl1 : fl.length ≤ 21 := by omega
    have HF := Lib.hid (linkL_mk hf)
    have HM := Lib.hid (loops_mk hf)
    clear hlen
    go_enter Try.func30, Try.ntmps30
    go_wp2_with fail
    refine (FlagLinked_any _ _ _ _ _ h hl rfl).mono ?_
    rintro e w1 ⟨A1, c1, rfl, l1, _, n1, o1, b1⟩
    rw [HF.out] at l1 n1 o1 ⊢
    simp only [natL_length] at l1 ⊢
    obtain ⟨bq, oq, rfl, hbq, _⟩ := o1.rd.int_at (k := 0) (by simp; omega)
    have HR := Lib.hid o1.rd
    have hw1 := b1.size
    have hA := h.below b1 (Nat.le_refl _)
    have hq : ∀ w : World, (binOp .eql 28 (.slice (some ⟨bq, oq, none⟩) N c1) (.slice none 0 0)).run Try.prog w = .ok (.bool false) w := fun w => Lib.run_eql_slice_nil w _ _ (some ⟨bq, oq, none⟩) N c1 0 0 Try.underlying28
    clear n1 o1
    go_wp2
    go_loop [6, 20] (fun v i => ∃ k : Nat, k ≤ N ∧ i = .int .i64 k ∧ v = .int .i64 (-(N : Int) + (roots (lab N fl) k : Int))) (fun _ i => N - (intOf i).toNat)
    case atStart => exact ⟨0, Nat.zero_le _, rfl, by simp [roots]⟩
    case round =>
      obtain ⟨k, hk, rfl, rfl⟩ := hrel
      have hr := roots_le (lab N fl) k
      obtain ⟨s1, s2⟩ := roots_step (lab N fl) k
      by_cases hlt : k < N
      · obtain ⟨b', o', e, _, hc⟩ := HR.out.int_at (k := k) (by simpa using hlt)
        injection e with e
        injection e with e1 e2
        subst e1 e2
        rw [gi_natL _ hlt] at hc
        have i1 : (k : Int) < (N : Int) := by omega
        by_cases he : lab N fl k = k
        · have e0 : ((k : Int) == ((lab N fl k : Nat) : Int)) = true := by simp [he]
          have HS := Lib.hid (s1 he)
          clear s1 s2 he
          go_wp2
          go_round
          case rel => exact ⟨k + 1, by omega, by go_num, by rw [HS.out]; go_num⟩
          case measure => simp [intOf]; omega
        · have e0 : ((k : Int) == ((lab N fl k : Nat) : Int)) = false := by simp; omega
          have HS := Lib.hid (s2 he)
          clear s1 s2 he
          go_wp2
          go_round
          case rel => exact ⟨k + 1, by omega, by go_num, by rw [HS.out]⟩
          case measure => simp [intOf]; omega
      · obtain rfl : k = N := by omega
        clear s1 s2
        have d1 : decide ((k : Int) < (k : Int)) = false := by simp
        go_wp2
        go_loop [6, 33] (fun v i => ∃ j : Nat, j ≤ fl.length ∧ i = .int .i64 j ∧ v = .int .i64 (-(k : Int) + (roots (lab k fl) k : Int) + (gd fl j : Int))) (fun _ i => fl.length - (intOf i).toNat)
        case atStart => exact ⟨0, Nat.zero_le _, rfl, by simp [gd]⟩
        case round =>
          obtain ⟨j, hj, rfl, rfl⟩ := hrel
          have hg := gd_le fl j
          obtain ⟨s1, s2⟩ := gd_step fl j
          by_cases hlt : j < fl.length
          · obtain ⟨b', o', rfl, _, hc⟩ := hA.bool_at hlt
            have i1 : (j : Int) < (fl.length : Int) := by omega
            cases hgb : gb fl j with
            | false =>
              rw [hgb] at hc
              have HS := Lib.hid (s1 hgb)
              clear s1 s2 hgb
              go_wp2
              go_round
              case rel => exact ⟨j + 1, by omega, by go_num, by rw [HS.out]; go_num⟩
              case measure => simp [intOf]; omega
            | true =>
              rw [hgb] at hc
              have HS := Lib.hid (s2 hgb)
              clear s1 s2 hgb
              go_wp2
              go_round
              case rel => exact ⟨j + 1, by omega, by go_num, by rw [HS.out]⟩
              case measure => simp [intOf]; omega
          · obtain rfl : j = fl.length := by omega
            clear s1 s2
            go_wp2
            go_ret
            exact ⟨ret_int (by rw [HM.out]; omega), b1⟩
set_option maxHeartbeats 1000000 in
theorem sFlagLoops_any (n : Int) (A : Option Addr) (c : Nat) (fl : List Bool) (w : World) (h : Rd w A (bools fl)) (hl : fl.length ≤ 1048592) {m : Nat} (hm : fl.length = m) :
    Calls Try.prog 29 #[.int .i64 n, .slice A m c] w fun e w' => e = .returned (.int .i64 (flagLoops n fl)) ∧ Below w.heap.size w w' := by
  subst hm
  cases hf : flB n fl with
  | false =>
    rw [loops_no hf]
    have HF := Lib.hid (linkL_no hf)
    go_enter Try.func29, Try.ntmps29
    go_wp2_with fail
    refine (sFlagLinked_any _ _ _ _ _ h hl rfl).mono ?_
    rintro e w1 ⟨A1, c1, rfl, l1, o1, b1⟩
    rw [HF.out]
    clear o1 l1
    go_wp2
    go_ret
    exact ⟨rfl, b1⟩
  | true =>
    obtain ⟨N, rfl, n2, n7, hlen⟩ := flB_ok hf
    have hnb := nb_le n7
    have hl1 : fl.length ≤ 21 := by omega
    have HF := Lib.hid (linkL_mk hf)
    have HM := Lib.hid (loops_mk hf)
    clear hlen
    go_enter Try.func29, Try.ntmps29
    go_wp2_with fail
    refine (sFlagLinked_any _ _ _ _ _ h hl rfl).mono ?_
    rintro e w1 ⟨A1, c1, rfl, l1, o1, b1⟩
    rw [HF.out] at l1 o1 ⊢
    simp only [natL_length] at l1 ⊢
    obtain ⟨bq, oq, rfl, hbq, _⟩ := o1.rd.int_at (k := 0) (by simp; omega)
    have HR := Lib.hid o1.rd
    have hw1 := b1.size
    have hA := h.below b1 (Nat.le_refl _)
    have e00 : ((N : Int) == 0) = false := by simp; omega
    have e01 : ¬ N = 0 := by omega
    clear o1
    go_wp2
    go_loop [6, 7] (fun v i => ∃ j : Nat, j ≤ fl.length ∧ i = .int .i64 j ∧ v = .int .i64 (-(N : Int) + (gd fl j : Int))) (fun _ i => fl.length - (intOf i).toNat)
    case atStart => exact ⟨0, Nat.zero_le _, rfl, by simp [gd]⟩
    case round =>
      obtain ⟨j, hj, rfl, rfl⟩ := hrel
      have hg := gd_le fl j
      obtain ⟨s1, s2⟩ := gd_step fl j
      by_cases hlt : j < fl.length
      · obtain ⟨b', o', rfl, _, hc⟩ := hA.bool_at hlt
        have i1 : (j : Int) < (fl.length : Int) := by omega
        cases hgb : gb fl j with
        | false =>
          rw [hgb] at hc
          have HS := Lib.hid (s1 hgb)
          clear s1 s2 hgb
          go_wp2
          go_round
          case rel => exact ⟨j + 1, by omega, by go_num, by rw [HS.out]; go_num⟩
          case measure => simp [intOf]; omega
        | true =>
          rw [hgb] at hc
          have HS := Lib.hid (s2 hgb)
          clear s1 s2 hgb
          go_wp2
          go_round
          case rel => exact ⟨j + 1, by omega, by go_num, by rw [HS.out]⟩
          case measure => simp [intOf]; omega
      · obtain rfl : j = fl.length := by omega
        clear s1 s2
        go_wp2
        go_loop [6, 8] (fun v i => ∃ k : Nat, k ≤ N ∧ i = .int .i64 k ∧ v = .int .i64 (-(N : Int) + (gd fl fl.length : Int) + (roots (lab N fl) k : Int))) (fun _ i => N - (intOf i).toNat)
        case atStart => exact ⟨0, Nat.zero_le _, rfl, by simp [roots]⟩
        case round =>
          obtain ⟨k, hk, rfl, rfl⟩ := hrel
          have hr := roots_le (lab N fl) k
          obtain ⟨s1, s2⟩ := roots_step (lab N fl) k
          by_cases hlt : k < N
          · obtain ⟨b', o', e, _, hc⟩ := HR.out.int_at (k := k) (by simpa using hlt)
            injection e with e
            injection e with e1 e2
            subst e1 e2
            rw [gi_natL _ hlt] at hc
            have i1 : (k : Int) < (N : Int) := by omega
            by_cases he : lab N fl k = k
            · have e0 : (((lab N fl k : Nat) : Int) == (k : Int)) = true := by simp [he]
              have HS := Lib.hid (s1 he)
              clear s1 s2 he
              go_wp2
              go_round
              case rel => exact ⟨k + 1, by omega, by go_num, by rw [HS.out]; go_num⟩
              case measure => simp [intOf]; omega
            · have e0 : (((lab N fl k : Nat) : Int) == (k : Int)) = false := by simp; omega
              have HS := Lib.hid (s2 he)
              clear s1 s2 he
              go_wp2
              go_round
              case rel => exact ⟨k + 1, by omega, by go_num, by rw [HS.out]⟩
              case measure => simp [intOf]; omega
          · obtain rfl : k = N := by omega
            clear s1 s2
            have d1 : decide ((k : Int) < (k : Int)) = false := by simp
            go_wp2
            go_ret
            exact ⟨ret_int (by rw [HM.out]; omega), b1⟩
end Go.Proofs.Ytopneihamefohaa
