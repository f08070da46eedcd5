/-
  The iterator over all baselines hands them out in order.
-/
import Derived.Test.YtopneihamefohaaBases
import Derived.Test.YtopneihamefohaaRangeC
namespace Go.Proofs.Ytopneihamefohaa
set_option linter.unusedVariables false
open Go.RowKit Go.Shelf
attribute [local go_sem] Oper.semAt_some

set_option maxRecDepth 100000 in
set_option maxHeartbeats 2000000 in
theorem bases1_order (N m : Nat) (h2 : 2 ≤ N) (h7 : N ≤ 7) (hm : 1 ≤ m) (l Bn : Nat) (J : List (Bx N) → World → Prop)
    (hY : ∀ pre x W1, J pre W1 → x.1 = pre.length → YieldAt Fence.wide (m - 1) Try.prog l (encB N x) W1 fun e W' => e = .returned (.bool true) ∧ J (pre ++ [x]) W' ∧ KpB Bn W1 W')
    (W : World) (hbox : W.heap[Bn]? = some (.cells #[.int .i64 (N : Int)] 3 (0, 0))) (h0 : J [] W) :
    CallsIn Fence.wide m Try.prog 68 #[.func (.yield l) #[] #[], .pointer (some ⟨Bn, 0, none⟩)] W fun e W' => (∃ v, e = .returned v) ∧
      ∃ xs, AllB xs ∧ J xs W' := by
  have hmB := manyB_mk h2 h7
  refine callsIn_of_wp Try.func68 rfl trivial ?_ rfl
  simp only [Try.ntmps68, List.size_toArray, List.length_cons, List.length_nil, Nat.reduceAdd, Nat.reduceSub, Array.replicate_succ, Array.replicate_zero, List.push_toArray, List.append_toArray, List.nil_append, List.cons_append]
  gi_wp2
  gi_loopw [3] (fun v wr => ∃ (i : Nat) (pre : List (Bx N)), i ≤ N ∧ v = .int .i64 i ∧ InOrder pre ∧ pre.length = idx N i (i + 1) ∧ J pre wr ∧ wr.heap[Bn]? = some (.cells #[.int .i64 (N : Int)] 3 (0, 0))) (fun v _ => N - (intOf v).toNat)
  case atStart => exact ⟨0, [], Nat.zero_le _, rfl, InOrder.nil, by rw [idx_zero h7]; rfl, h0, hbox⟩
  case round =>
    obtain ⟨i, pre, hi, rfl, ho, hl, hJ, hb⟩ := hrel
    obtain ⟨wo, rfl⟩ : ∃ wo : World, wo = wr := ⟨_, rfl⟩
    have hc := Boxed.cell (show Boxed wo Bn 3 (.int .i64 (N : Int)) from hb)
    by_cases hlt : i < N
    · have d1 : decide ((i : Int) < (N : Int)) = true := by simp; omega
      have HL := Lib.hid hl
      have HB := Lib.hid hb
      clear hl hb
      gi_wp2_with (refine ⟨trivial, ?_⟩; gi_at_call 49; refine (callsIn_wide.2 (isMany_any _ _)).mono ?_; rintro e w' ⟨rfl, rfl⟩)
      gi_loopw [4] (fun v wr => ∃ (j : Nat) (pre : List (Bx N)), i + 1 ≤ j ∧ j ≤ N ∧ v = .int .i64 j ∧ InOrder pre ∧ pre.length = idx N i j ∧ J pre wr ∧ wr.heap[Bn]? = some (.cells #[.int .i64 (N : Int)] 3 (0, 0))) (fun v _ => N - (intOf v).toNat)
      case atStart => exact ⟨i + 1, pre, Nat.le_refl _, by omega, by go_num, ho, HL.out, hJ, HB.out⟩
      case round =>
        clear HL HB hc ho hJ pre
        obtain ⟨j, pre, hij, hj, rfl, ho, hl, hJ, hb⟩ := hrel
        have hc := Boxed.cell (show Boxed wr Bn 3 (.int .i64 (N : Int)) from hb)
        by_cases hlt2 : j < N
        · obtain ⟨x1, x2, x3⟩ := idx_at h7 (show i < j by omega) hlt2
          have hx := hY pre ⟨idx N i j, x1⟩ wr hJ hl.symm
          rw [show encB N ⟨idx N i j, x1⟩ = #[.int .i64 (i : Int), .int .i64 (j : Int)] by unfold encB; rw [x2, x3]] at hx
          obtain ⟨fn, tmps, assign, body, hy, hR⟩ := hx
          have HL := Lib.hid hl
          have HB := Lib.hid hb
          have HO := Lib.hid (ho.snoc ⟨idx N i j, x1⟩ hl.symm)
          have HX := Lib.hid (idx_next h7 (show i < j by omega) hlt2)
          clear hl hb ho x2 x3
          gi_wp2
          refine hR.mono ?_
          rintro e W3 ⟨rfl, hJ3, hk3⟩
          have hb3 := Lib.hid (show W3.heap[Bn]? = some (.cells #[.int .i64 (N : Int)] 3 (0, 0)) from Eq.trans hk3 HB.out)
          clear hk3
          gi_wp2
          go_roundw
          case rel => exact ⟨j + 1, _, by omega, by omega, by go_num, HO.out, by rw [List.length_append, HL.out, HX.out]; rfl, hJ3, hb3.out⟩
          case measure => simp [intOf]; omega
        · obtain rfl : j = N := by omega
          have HL := Lib.hid (hl.trans (idx_row h7 (show i < j by omega)))
          have HB := Lib.hid hb
          clear hl hb
          gi_wp2
          go_roundw
          case rel => exact ⟨i + 1, pre, by omega, by go_num, ho, HL.out, hJ, HB.out⟩
          case measure => simp [intOf]; omega
    · obtain rfl : i = N := by omega
      have d1 : decide ((i : Int) < (i : Int)) = false := by simp
      have HL := Lib.hid (hl.trans (idx_end h2 h7))
      clear hl hb
      gi_wp2
      refine ⟨trivial, ?_⟩
      gi_wp2
      go_end0
      exact ⟨⟨_, rfl⟩, pre, ⟨ho, HL.out⟩, hJ⟩
theorem bases_order (N m : Nat) (h2 : 2 ≤ N) (h7 : N ≤ 7) (hm : 1 ≤ m) (Bn : Nat) (w : World) (hbox : w.heap[Bn]? = some (.cells #[.int .i64 (N : Int)] 3 (0, 0))) :
    SeqIn Fence.wide m Try.prog 68 #[.pointer (some ⟨Bn, 0, none⟩)] (encB N) (KpB Bn) AllB (fun pre x => x.1 = pre.length) w := fun l J W hW hY h0 =>
  bases1_order N m h2 h7 hm l Bn J hY W ((hW.block Bn (Array.getElem?_eq_some_iff.1 hbox).1).trans hbox) h0
end Go.Proofs.Ytopneihamefohaa
