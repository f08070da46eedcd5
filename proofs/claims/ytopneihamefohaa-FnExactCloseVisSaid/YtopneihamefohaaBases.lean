/-
  The iterator over all baselines: what it hands to a loop's body.
-/
import Derived.Test.YtopneihamefohaaRound
import Derived.Test.YtopneihamefohaaVisA
namespace Go.Proofs.Ytopneihamefohaa
set_option linter.unusedVariables false
open Go.RowKit Go.Shelf
attribute [local go_sem] Oper.semAt_some

/-- the number of a baseline -/
abbrev Bx (N : Nat) := { k : Nat // k < nb N }
def encB (N : Nat) (x : Bx N) : Array Value := #[.int .i64 ((b1 N x.1 : Nat) : Int), .int .i64 ((b2 N x.1 : Nat) : Int)]
/-- the block b is as it was -/
def KpB (b : Nat) (W W' : World) : Prop := W'.heap[b]? = W.heap[b]?
/-- all that have come, in order -/
def InOrder {N : Nat} (pre : List (Bx N)) : Prop := pre.map (·.1) = List.range pre.length
def AllB {N : Nat} (xs : List (Bx N)) : Prop := InOrder xs ∧ xs.length = nb N
theorem InOrder.nil {N : Nat} : InOrder ([] : List (Bx N)) := rfl
theorem InOrder.snoc {N : Nat} {pre : List (Bx N)} (h : InOrder pre) (x : Bx N) (hx : x.1 = pre.length) : InOrder (pre ++ [x]) := by
  unfold InOrder at *
  simp [h, List.range_succ, hx]

set_option maxHeartbeats 400000 in
theorem bases_any (n : Int) (w : World) : Calls Try.prog 52 #[.int .i64 n] w fun e w' => e = .returned (.func (.func 68) #[] #[.pointer (some ⟨w.heap.size, 0, none⟩)]) ∧ w' = w.alloc (.cells #[.int .i64 n] 3) := by
  go_enter Try.func52, Try.ntmps52
  go_wp2
  go_ret
  exact ⟨rfl, rfl⟩

set_option maxRecDepth 100000 in
set_option maxHeartbeats 2000000 in
theorem bases1_in (N m : Nat) (h2 : 2 ≤ N) (h7 : N ≤ 7) (hm : 1 ≤ m) (l Bn : Nat) (J Jx : List (Bx N) → World → Prop)
    (hY : ∀ pre x W1, J pre W1 → pre.length < nb N → YieldAt Fence.wide (m - 1) Try.prog l (encB N x) W1 fun e W' =>
      (e = .returned (.bool true) ∧ J (pre ++ [x]) W' ∧ KpB Bn W1 W') ∨ (e = .returned (.bool false) ∧ Jx (pre ++ [x]) W'))
    (W : World) (hbox : W.heap[Bn]? = some (.cells #[.int .i64 (N : Int)] 3 (0, 0))) (h0 : J [] W) :
    CallsIn Fence.wide m Try.prog 68 #[.func (.yield l) #[] #[], .pointer (some ⟨Bn, 0, none⟩)] W fun e W' => (∃ v, e = .returned v) ∧
      ((∃ xs, AllB xs ∧ J xs W') ∨ (∃ pre, InOrder pre ∧ Jx pre W')) := by
  have hmB := manyB_mk h2 h7
  refine callsIn_of_wp Try.func68 rfl trivial ?_ rfl
  simp only [Try.ntmps68, List.size_toArray, List.length_cons, List.length_nil, Nat.reduceAdd, Nat.reduceSub, Array.replicate_succ, Array.replicate_zero, List.push_toArray, List.append_toArray, List.nil_append, List.cons_append]
  gi_wp2
  gi_loopw [3] (fun v wr => ∃ (i : Nat) (pre : List (Bx N)), i ≤ N ∧ v = .int .i64 i ∧ InOrder pre ∧ pre.length = idx N i (i + 1) ∧ J pre wr ∧ wr.heap[Bn]? = some (.cells #[.int .i64 (N : Int)] 3 (0, 0))) (fun v _ => N - (intOf v).toNat)
  case atStart => exact ⟨0, [], Nat.zero_le _, rfl, InOrder.nil, by rw [idx_zero h7]; rfl, h0, hbox⟩
  case round =>
    obtain ⟨i, pre, hi, rfl, ho, hl, hJ, hb⟩ := hrel
    obtain ⟨wo, rfl⟩ : ∃ wo : World, wo = wr := ⟨_, rfl⟩
    have hc := Boxed.cell (show Boxed wo Bn 3 (.int .i64 (N : Int)) from hb)
    by_cases hlt : i < N
    · have d1 : decide ((i : Int) < (N : Int)) = true := by simp; omega
      have HL := Lib.hid hl
      have HB := Lib.hid hb
      clear hl hb
      gi_wp2_with (refine ⟨trivial, ?_⟩; gi_at_call 49; refine (callsIn_wide.2 (isMany_any _ _)).mono ?_; rintro e w' ⟨rfl, rfl⟩)
      gi_loopw [4] (fun v wr => ∃ (j : Nat) (pre : List (Bx N)), i + 1 ≤ j ∧ j ≤ N ∧ v = .int .i64 j ∧ InOrder pre ∧ pre.length = idx N i j ∧ J pre wr ∧ wr.heap[Bn]? = some (.cells #[.int .i64 (N : Int)] 3 (0, 0))) (fun v _ => N - (intOf v).toNat)
      case atStart => exact ⟨i + 1, pre, Nat.le_refl _, by omega, by go_num, ho, HL.out, hJ, HB.out⟩
      case round =>
        clear HL HB hc ho hJ pre
        obtain ⟨j, pre, hij, hj, rfl, ho, hl, hJ, hb⟩ := hrel
        have hc := Boxed.cell (show Boxed wr Bn 3 (.int .i64 (N : Int)) from hb)
        by_cases hlt2 : j < N
        · obtain ⟨x1, x2, x3⟩ := idx_at h7 (show i < j by omega) hlt2
          have hx := hY pre ⟨idx N i j, x1⟩ wr hJ (by omega)
          rw [show encB N ⟨idx N i j, x1⟩ = #[.int .i64 (i : Int), .int .i64 (j : Int)] by unfold encB; rw [x2, x3]] at hx
          obtain ⟨fn, tmps, assign, body, hy, hR⟩ := hx
          have HL := Lib.hid hl
          have HB := Lib.hid hb
          have HO := Lib.hid (ho.snoc ⟨idx N i j, x1⟩ hl.symm)
          have HX := Lib.hid (idx_next h7 (show i < j by omega) hlt2)
          clear hl hb ho x2 x3
          gi_wp2
          refine hR.mono ?_
          rintro e W3 (⟨rfl, hJ3, hk3⟩ | ⟨rfl, hJx3⟩)
          · have hb3 := Lib.hid (show W3.heap[Bn]? = some (.cells #[.int .i64 (N : Int)] 3 (0, 0)) from Eq.trans hk3 HB.out)
            clear hk3
            gi_wp2
            go_roundw
            case rel => exact ⟨j + 1, _, by omega, by omega, by go_num, HO.out, by rw [List.length_append, HL.out, HX.out]; rfl, hJ3, hb3.out⟩
            case measure => simp [intOf]; omega
          · gi_wp2
            refine bodyPost_ret (results_none rfl _ _ _) rfl ?_
            exact ⟨⟨_, rfl⟩, .inr ⟨_, HO.out, hJx3⟩⟩
        · obtain rfl : j = N := by omega
          have HL := Lib.hid (hl.trans (idx_row h7 (show i < j by omega)))
          have HB := Lib.hid hb
          clear hl hb
          gi_wp2
          go_roundw
          case rel => exact ⟨i + 1, pre, by omega, by go_num, ho, HL.out, hJ, HB.out⟩
          case measure => simp [intOf]; omega
    · obtain rfl : i = N := by omega
      have d1 : decide ((i : Int) < (i : Int)) = false := by simp
      have HL := Lib.hid (hl.trans (idx_end h2 h7))
      clear hl hb
      gi_wp2
      refine ⟨trivial, ?_⟩
      gi_wp2
      go_end0
      exact ⟨⟨_, rfl⟩, .inl ⟨pre, ⟨ho, HL.out⟩, hJ⟩⟩

theorem bases_stops (N m : Nat) (h2 : 2 ≤ N) (h7 : N ≤ 7) (hm : 1 ≤ m) (Bn : Nat) (w : World) (hbox : w.heap[Bn]? = some (.cells #[.int .i64 (N : Int)] 3 (0, 0))) :
    SeqStopsK Fence.wide m Try.prog 68 #[.pointer (some ⟨Bn, 0, none⟩)] (encB N) (KpB Bn) AllB InOrder (nb N) w := fun l J Jx W hW _ _ hY h0 =>
  bases1_in N m h2 h7 hm l Bn J Jx hY W ((hW.block Bn (Array.getElem?_eq_some_iff.1 hbox).1).trans hbox) h0
theorem kpB_t {b : Nat} {A B C : World} (h : KpB b A B) (k : KpB b B C) : KpB b A C := Eq.trans k h
theorem kpB_b {b : Nat} {w : World} (hb : b < w.heap.size) (W : World) (l : Nat) (o o' : Obj) (hl : w.heap.size ≤ l) (h : W.heap[l]? = some o) (_ : o.isCells = false) (_ : o.isWalk = false) : KpB b W (W.putObj l o') :=
  (grownBy_putObj' W l o').block b (by have := (Array.getElem?_eq_some_iff.1 h).1; omega) (fun e => by cases e; omega)
end Go.Proofs.Ytopneihamefohaa
