/-
  Contract of GainTurn, where its gains are valid.
-/
import Derived.Test.YtahomhldochodaaApplyS
import Derived.Test.YtahomhldochodaaApplyL
namespace Go.Proofs.Ytahomhldochodaa
set_option linter.unusedVariables false
open Go.RowKit
attribute [local go_sem ↓] Go.wp_at_zero Go.wp_at_succ


theorem kc2 {w wr : World} {b : Nat} {x y : Int} {E : TypeId} (h : wr.heap[b]? = some (.cells #[.int .i64 x, .int .i64 y] E (0, 0))) : ∀ w' : World, w'.heap[b]? = wr.heap[b]? → w'.cell? ⟨b, 0, none⟩ = some (.int .i64 x) ∧ w'.cell? ⟨b, 1, none⟩ = some (.int .i64 y) := fun w' e => by
  obtain ⟨a, b, _⟩ := two_cells (e.trans h)
  exact ⟨a, b⟩
set_option maxHeartbeats 4000000 in
theorem GainTurn_yes (N : Nat) (A : Option Addr) (c : Nat) (gs : List (Int × Int)) (y : Int) (w : World) (ha : Rd w A (pairs gs)) (vg : gainB (N : Int) gs = true) (y0 : 0 ≤ y) (y1 : y < 360) {m : Nat} (hm : gs.length = m) :
    Calls Try.prog 31 #[.int .i64 (N : Int), .slice A m c, .int .i64 y] w (RetG w 38 (upto (tnF gs y) N, true)) := by
  subst hm
  obtain ⟨hmn, hla, hva⟩ := gainB_ok vg
  have hmn2 := inB_true hmn
  have la1 := Nat.le_of_eq (gainB_len vg)
  have la2 := Nat.le_of_eq (gainB_len vg).symm
  have hl : gs.length ≤ 1048592 := by omega
  have hp : phB y = true := inB_mk (by omega)
  clear hla
  obtain ⟨i0, hi, hz0, hz1, hz2⟩ := info_parts info_Vis
  go_enter Try.func31, Try.ntmps31
  go_wp2_with fail
  refine (GainsValid_any _ _ _ _ _ ha hl rfl).mono ?_
  rintro e v1 ⟨rfl, d1⟩
  rw [vg]
  have D := Lib.hid d1
  clear d1
  go_wp2_with (go_at_call 50; refine (isPhase_any _ _).mono ?_; rintro e w' ⟨rfl, rfl⟩; rw [hp])
  go_loopw [8, 22] (fun o i wr => ∃ k : Nat, k ≤ N ∧ i = .int .i64 k ∧ ApG w wr 38 o (tnF gs y) k) (fun _ i _ => N - (intOf i).toNat)
  case atStart => exact ⟨0, Nat.zero_le _, rfl, World.ownsRow_nil _ _ _ _, D.out⟩
  case round =>
    clear D
    obtain ⟨k, hk, rfl, hap⟩ := hrel
    by_cases hlt : k < N
    · obtain ⟨q1, o1, rfl, hq1, hc1, hd1⟩ := (ha.below hap.2 (Nat.le_refl _)).pair_at (k := k) (by omega)
      obtain ⟨z1, z2, z3, z4⟩ := allV_bd hva (j := k) (by omega)
      have i1 : (k : Int) < (gs.length : Int) := by omega
      have X2 := XW.new hap (Below.refl _ _) (g1 gs k) (g2 gs k)
      clear hap
      go_wp2
      generalize hW2 : wr.alloc (.cells #[.int .i64 (g1 gs k), .int .i64 (g2 gs k)] 38) = W2 at *
      generalize hb : wr.heap.size = b at *
      have hbl := X2.1
      have hwb : w.heap.size ≤ b := Nat.le_trans X2.2.2.1.2.size X2.2.1
      have hap := X2.ap
      have m1 := Lib.hid (show k + 1 ≤ maxLen by simp [maxLen]; omega)
      have m2 := Lib.hid (show (k + 1) * 16 ≤ 140737488355328 by omega)
      have m3 := Lib.hid (base_da (o := .cells #[.int .i64 (g1 gs k), .int .i64 ((g2 gs k + y) % 360)] 38) hap.2.size)
      have H1 := Lib.hid hap
      have hrow : ∀ q, u8.ownBlock = some q → q < b := fun q hq => by have := (X2.2.2.1.1.lt q hq).2; omega
      have KC := Lib.hid (kc2 hbl (w := w))
      have hlb := (two_cells hbl).2.2.2.2
      have B1 := Lib.hid (Below.heap_alloc W2 (.cells #[.int .i64 (g1 gs k), .int .i64 ((g2 gs k + y) % 360)] 38) b hlb)
      have HR := Lib.hid hrow
      clear hap X2 hW2 hb hc1 hd1 hbl hrow
      have e2 : IntKind.i64.wrap (g2 gs k + y) = g2 gs k + y := IntWalk.i64_in _ (by omega)
      go_region_held3 (fun w' => w'.cell? ⟨b, 0, none⟩ = some (.int .i64 (g1 gs k)) ∧ w'.cell? ⟨b, 1, none⟩ = some (.int .i64 (g2 gs k))) (first | exact KC.out _ B2 | exact KC.out _ B1.out | exact KC.out _ rfl | go_keep)
        (first | (go_at_call 33; (with_reducible refine (PhaseOf_any _ _).mono ?_); rintro e w' ⟨rfl, rfl⟩) | (refine step_append_lies _ rfl (.tmp 26) (.tmp 35) 24 rfl w.heap.size 38 i0 (.agg #[.int .i64 0, .int .i64 0]) 2 16 Try.underlying24 hi hz0 hz1 hz2 rfl (by decide) _ k (pairs (upto (tnF gs y) k)) (by simp [Act.eval]) (own_da H1.out.1 _) ⟨W2.heap.size, 0, none⟩ 1 1 [.int .i64 (g1 gs k), .int .i64 ((g2 gs k + y) % 360)] (by simp [Act.eval]) rfl (news_da2 _ _ _ _) (one2 _ _) (by decide) m1.out m2.out m3.out _ rfl ?_; intro g cap w1 hown1 hgrow hat hlt1; have B2 := (hgrow.block b (by show b < (W2.heap.push _).size; simp; omega) (fun e => Nat.lt_irrefl _ (HR.out b e.symm))).trans B1.out))
      all_goals
        clear e2
        go_wp2
        go_roundw
        case rel => exact ⟨k + 1, by omega, by go_num, ApG.stepD (f := tnF gs y) H1.out hown1 hgrow⟩
        case measure => simp [intOf]; omega
    · obtain rfl : k = N := by omega
      obtain ⟨Ao, co, rfl, hco, _⟩ := own_shape hap.1
      have ho := Ow.of_own hap.1
      have hbw := hap.2
      clear hap
      go_wp2
      go_ret2
      exact ⟨Ao, co, by simp, by simpa using hco, ho, hbw⟩

end Go.Proofs.Ytahomhldochodaa
