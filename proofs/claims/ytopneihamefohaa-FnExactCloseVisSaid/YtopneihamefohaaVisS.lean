/-
  Contracts of the helpers over []Vis: a copy, equality, marks.
-/
import Derived.Test.YtopneihamefohaaPair
import Derived.StillTailTactics
import Derived.Handy
import Derived.Laws.StructEq
namespace Go.Proofs.Ytopneihamefohaa
set_option linter.unusedVariables false
open Go.RowKit

theorem toVis_any (x y : Int) (w : World) : Calls Try.prog 59 #[.agg #[.int .i64 x, .int .i64 y]] w fun e w' => e = .returned (.agg #[.int .i64 x, .int .i64 y]) ∧ Below w.heap.size w w' := by
  go_enter Try.func59, Try.ntmps59
  go_wp2
  exact bodyPost_ret (v := .agg #[.int .i64 x, .int .i64 y]) (by simp [results, Try.results59, go_sem]) rfl ⟨rfl, by go_grown⟩

theorem eqVis_any (x y u v : Int) (w : World) : Calls Try.prog 36 #[.agg #[.int .i64 x, .int .i64 y], .agg #[.int .i64 u, .int .i64 v]] w fun e w' => e = .returned (.bool (decide (x = u ∧ y = v))) ∧ Below w.heap.size w w' := by
  by_cases h1 : x = u
  · have b1 : (x != u) = false := by simp [h1]
    have H1 := Lib.hid h1
    clear h1
    by_cases h2 : y = v
    · have b2 : (y != v) = false := by simp [h2]
      have H2 := Lib.hid h2
      clear h2
      go_enter Try.func36, Try.ntmps36
      go_wp2
      go_ret
      exact ⟨ret_bool (by simp [H1.out, H2.out]), by go_grown⟩
    · have b2 : (y != v) = true := by simp [h2]
      go_enter Try.func36, Try.ntmps36
      go_wp2
      go_ret
      exact ⟨ret_bool (by simp [h2]), by go_grown⟩
  · have b1 : (x != u) = true := by simp [h1]
    go_enter Try.func36, Try.ntmps36
    go_wp2
    go_ret
    exact ⟨ret_bool (by simp [h1]), by go_grown⟩

theorem info_Vis : (Try.prog.info? 44).map (fun i => (i.zero, i.size, i.bytes)) = some (some (.agg #[.int .i64 0, .int .i64 0]), 2, 16) := by kernel_rfl
theorem mkVis (n : Nat) (h : n ≤ 1048592) : ∀ w : World, (Instr.makeSlice 47 (.int .i64 (n : Int)) (.int .i64 (n : Int))).run Try.prog w = .ok (.slice (some ⟨w.heap.size, 0, none⟩) n n) (w.alloc (.cells (madeCells #[.int .i64 0, .int .i64 0] (n * 2)) 44)) := by
  intro w
  obtain ⟨i, hi, hz0, hz1, hz2⟩ := info_parts info_Vis
  have hr := run_make (P := Try.prog) w 47 44 i (.agg #[.int .i64 0, .int .i64 0]) Try.underlying47 hi hz0 .i64 .i64 n n (by omega) (by omega) (by rw [hz2]; omega) (by omega)
  simp only [Int.toNat_natCast, hz1] at hr
  exact hr

/-- a copy in the making -/
def CopyVis (w wr : World) (A : Option Addr) (ps : List (Int × Int)) (k : Nat) : Prop :=
  ∃ O : List (Int × Int), O.length = ps.length ∧ Agree2 O ps k ∧ Ow wr 44 w.heap.size (w.heap.size + 1) A (pairs O) ∧ Below w.heap.size w wr ∧ w.heap.size + 1 ≤ wr.heap.size

theorem CopyVis.step {w wr : World} {g off : Nat} {ps : List (Int × Int)} {k : Nat} {O : List (Int × Int)} (hk : k < ps.length) (h1 : O.length = ps.length) (h2 : Agree2 O ps k)
    (h3 : ∀ x y, Ow ((wr.setCell ⟨g, off + k * 2, none⟩ (.int .i64 x)).setCell ⟨g, off + k * 2 + 1, none⟩ (.int .i64 y)) 44 w.heap.size (w.heap.size + 1) (some ⟨g, off, none⟩) (pairs (O.set k (x, y)))) (h4 : Below w.heap.size w wr) (hs : w.heap.size + 1 ≤ wr.heap.size) (hg : w.heap.size ≤ g) :
    CopyVis w ((wr.setCell ⟨g, off + k * 2, none⟩ (.int .i64 (g1 ps k))).setCell ⟨g, off + k * 2 + 1, none⟩ (.int .i64 (g2 ps k))) (some ⟨g, off, none⟩) ps (k + 1) := by
  refine ⟨O.set k (g1 ps k, g2 ps k), by simpa using h1, fun j hj => ?_, h3 _ _, (h4.setCell hg _).setCell hg _, by simpa [World.setCell] using hs⟩
  rw [g1_set _ _ _ _ (by omega), g2_set _ _ _ _ (by omega)]
  split
  · subst_vars; exact ⟨rfl, rfl⟩
  · exact h2 j (by omega)

set_option maxHeartbeats 800000 in
theorem toVisS_any (A : Option Addr) (cap : Nat) (ps : List (Int × Int)) (w : World) (h : Rd w A (pairs ps)) (hl : ps.length ≤ 1048592) {n : Nat} (hn : ps.length = n) :
    Calls Try.prog 34 #[.slice A n cap] w fun e w' =>
      ∃ A', e = .returned (.slice A' n n) ∧ Ow w' 44 w.heap.size w'.heap.size A' (pairs ps) ∧ Below w.heap.size w w' := by
  subst hn
  have hmk := mkVis ps.length hl
  go_enter Try.func34, Try.ntmps34
  go_wp2
  clear hmk
  go_loopw [4] (fun i wr => ∃ k : Nat, k ≤ ps.length ∧ i = .int .i64 k ∧ CopyVis w wr (some ⟨w.heap.size, 0, none⟩) ps k) (fun i _ => ps.length - (intOf i).toNat)
  case atStart => exact ⟨0, Nat.zero_le _, rfl, List.replicate ps.length (0, 0), by simp, fun j hj => absurd hj (by omega), Ow.made2 w _ _, (Below.refl _ _).alloc (Nat.le_refl _) _, by simp⟩
  case round =>
    obtain ⟨k, hk, rfl, O, h1, h2, h3, h4, h5⟩ := hrel
    by_cases hlt : k < ps.length
    · obtain ⟨b, off, rfl, hb, hc1, hc2⟩ := (h.below h4 (Nat.le_refl _)).pair_at hlt
      go_wp2_with fail
      refine (toVis_any _ _ _).mono ?_
      rintro e w1 ⟨rfl, b1⟩
      have s1 := b1.size
      have h3' := h3.below b1 h5
      obtain ⟨g, off', e, hg, hg2, hg3, hd1, hd2, hf1, hf2, hset, _, _⟩ := h3'.pair_at (k := k) (by omega)
      injection e with e
      injection e with e1 e2
      subst e1 e2
      have hfin := CopyVis.step (w := w) hlt h1 h2 hset (h4.trans (b1.mono h4.size)) (show w.heap.size + 1 ≤ w1.heap.size by omega) hg
      simp only [Nat.zero_add] at hd1 hd2 hf1 hf2 hfin
      have HF := Lib.hid hfin
      clear hfin hset h1 h2 h3 h3' b1
      go_wp2
      go_roundw
      case rel => exact ⟨k + 1, by omega, by go_num, HF.out⟩
      case measure => simp [intOf]; omega
    · have hkz : k = ps.length := by omega
      subst hkz
      have e := pairs_inj h1 (fun j hj => (h2 j hj).1) (fun j hj => (h2 j hj).2)
      subst e
      clear h1 h2
      go_wp2
      go_ret
      exact ⟨_, rfl, h3.mono (Nat.le_refl _) h5, h4⟩

set_option maxHeartbeats 800000 in
theorem eqVisS_any (A B : Option Addr) (c d : Nat) (xs ys : List (Int × Int)) (w : World) (hx : Rd w A (pairs xs)) (hy : Rd w B (pairs ys)) (hl : xs.length ≤ 1048592) (hl' : ys.length ≤ 1048592) {n m : Nat} (hn : xs.length = n) (hm : ys.length = m) :
    Calls Try.prog 37 #[.slice A n c, .slice B m d] w fun e w' => e = .returned (.bool (decide (xs = ys))) ∧ Below w.heap.size w w' := by
  subst hn hm
  by_cases hlen : xs.length = ys.length
  · have hne : (((xs.length : Nat) : Int) != ((ys.length : Nat) : Int)) = false := by simp; omega
    have hl1 := Nat.le_of_eq hlen
    have hl2 := Nat.le_of_eq hlen.symm
    have HL := Lib.hid hlen
    clear hlen
    go_enter Try.func37, Try.ntmps37
    go_wp2
    clear hne
    go_loopw [5] (fun i wr => ∃ k : Nat, k ≤ xs.length ∧ i = .int .i64 k ∧ Below w.heap.size w wr ∧ Agree2 xs ys k) (fun i _ => xs.length - (intOf i).toNat)
    case atStart => exact ⟨0, Nat.zero_le _, rfl, Below.refl _ _, fun j hj => absurd hj (by omega)⟩
    case round =>
      obtain ⟨k, hk, rfl, hbel, hag⟩ := hrel
      by_cases hlt : k < xs.length
      · obtain ⟨b, off, rfl, hb, hc1, hc2⟩ := (hx.below hbel (Nat.le_refl _)).pair_at hlt
        obtain ⟨b', off', rfl, hb', hd1, hd2⟩ := (hy.below hbel (Nat.le_refl _)).pair_at (k := k) (by omega)
        have hi1 : (k : Int) < (xs.length : Int) := by omega
        have hi2 : (k : Int) < (ys.length : Int) := by omega
        go_wp2
        go_still_tail 8, (by kernel_rfl)
        by_cases he : g1 xs k = g1 ys k ∧ g2 xs k = g2 ys k
        · have hb1 : decide (g1 xs k = g1 ys k ∧ g2 xs k = g2 ys k) = true := decide_eq_true he
          have HE := Lib.hid he
          clear he
          go_wp2_with fail
          refine (eqVis_any _ _ _ _ _).mono ?_
          rintro e w1 ⟨rfl, b1⟩
          rw [hb1]
          have HB := Lib.hid (hbel.drew.trans (b1.mono hbel.size))
          clear hb1 b1
          go_wp2
          go_roundw
          case rel => exact ⟨k + 1, by omega, by go_num, HB.out, hag.step HE.out.1 HE.out.2⟩
          case measure => simp [intOf]; omega
        · have hb1 : decide (g1 xs k = g1 ys k ∧ g2 xs k = g2 ys k) = false := decide_eq_false he
          have HE := Lib.hid he
          clear he
          go_wp2_with fail
          refine (eqVis_any _ _ _ _ _).mono ?_
          rintro e w1 ⟨rfl, b1⟩
          rw [hb1]
          have HB := Lib.hid (hbel.drew.trans (b1.mono hbel.size))
          clear hb1 b1
          go_wp2
          go_ret
          exact ⟨ret_bool (by rw [decide_eq_false]; rintro rfl; exact HE.out ⟨rfl, rfl⟩), HB.out⟩
      · have e : xs = ys := by
          obtain rfl : k = xs.length := by omega
          exact pairs_inj HL.out (fun j hj => (hag j (by omega)).1) (fun j hj => (hag j (by omega)).2)
        have HE := Lib.hid e
        clear e
        go_wp2
        go_ret
        exact ⟨ret_bool (by simp [HE.out]), hbel⟩
  · have hne : (((xs.length : Nat) : Int) != ((ys.length : Nat) : Int)) = true := by simp; omega
    go_enter Try.func37, Try.ntmps37
    go_wp2
    go_ret
    exact ⟨ret_bool (by rw [decide_eq_false]; rintro rfl; exact hlen rfl), Below.refl _ _⟩

/-- marks in the making: the first j pairs are laid -/
def MarkVis (w wr : World) (lo hi : Nat) (A : Option Addr) (k : Int) (n j : Nat) : Prop :=
  ∃ O : List (Int × Int), O.length = n ∧ (∀ i, i < j → g1 O i = k + 2 * (i : Nat) ∧ g2 O i = k + 2 * (i : Nat) + 1) ∧ Ow wr 44 lo hi A (pairs O) ∧ Only w wr lo hi ∧ wr.heap.size = w.heap.size
theorem MarkVis.step {w wr : World} {lo hi g off : Nat} {k : Int} {n j : Nat} {O : List (Int × Int)} (hj : j < n) (h1 : O.length = n) (h2 : ∀ i, i < j → g1 O i = k + 2 * (i : Nat) ∧ g2 O i = k + 2 * (i : Nat) + 1)
    (h3 : ∀ x y, Ow ((wr.setCell ⟨g, off + j * 2, none⟩ (.int .i64 x)).setCell ⟨g, off + j * 2 + 1, none⟩ (.int .i64 y)) 44 lo hi (some ⟨g, off, none⟩) (pairs (O.set j (x, y)))) (h4 : Only w wr lo hi) (hs : wr.heap.size = w.heap.size) (hl : lo ≤ g) (hg : g < hi) :
    MarkVis w ((wr.setCell ⟨g, off + j * 2, none⟩ (.int .i64 (k + 2 * (j : Nat)))).setCell ⟨g, off + j * 2 + 1, none⟩ (.int .i64 (k + 2 * (j : Nat) + 1))) lo hi (some ⟨g, off, none⟩) k n (j + 1) := by
  refine ⟨O.set j (k + 2 * (j : Nat), k + 2 * (j : Nat) + 1), by simpa using h1, fun i hi' => ?_, h3 _ _, (h4.setCell hl hg _).setCell hl hg _, by simpa [World.setCell] using hs⟩
  rw [g1_set _ _ _ _ (by omega), g2_set _ _ _ _ (by omega)]
  split
  · subst_vars; exact ⟨rfl, rfl⟩
  · exact h2 i (by omega)

set_option maxHeartbeats 800000 in
theorem markVisS_any (A : Option Addr) (c lo hi : Nat) (xs : List (Int × Int)) (k : Int) (w : World) (h : Ow w 44 lo hi A (pairs xs)) (hl : xs.length ≤ 1048592) (hk0 : 0 ≤ k) (hk1 : k ≤ 1000000000000) {n : Nat} (hn : xs.length = n) :
    Calls Try.prog 44 #[.slice A n c, .int .i64 k] w fun e w' => e = .returned (.int .i64 (k + 2 * (n : Nat))) ∧ Ow w' 44 lo hi A (pairs (marks2 k n)) ∧ Only w w' lo hi ∧ w'.heap.size = w.heap.size := by
  subst hn
  go_enter Try.func44, Try.ntmps44
  go_wp2
  go_loopw [1, 5] (fun m i wr => ∃ j : Nat, j ≤ xs.length ∧ i = .int .i64 j ∧ m = .int .i64 (k + 2 * (j : Nat)) ∧ MarkVis w wr lo hi A k xs.length j) (fun _ i _ => xs.length - (intOf i).toNat)
  case atStart => exact ⟨0, Nat.zero_le _, rfl, by simp, xs, rfl, fun j hj => absurd hj (by omega), h, Only.refl _ _ _, rfl⟩
  case round =>
    obtain ⟨j, hj, rfl, rfl, O, h1, h2, h3, h4, h5⟩ := hrel
    by_cases hlt : j < xs.length
    · obtain ⟨g, off, rfl, hg1, hg2, hg3, hc1, hc2, hf1, hf2, hset, _, _⟩ := h3.pair_at (k := j) (by omega)
      have hfin := MarkVis.step (w := w) hlt h1 h2 hset h4 h5 hg1 hg2
      have HF := Lib.hid hfin
      have H5 := Lib.hid h5
      have H1 := Lib.hid h1
      clear hfin hset h1 h2 h3 h5
      go_wp2
      go_roundw
      case rel => exact ⟨j + 1, by omega, by go_num, by go_num, HF.out⟩
      case measure => simp [intOf]; omega
    · have hkz : j = xs.length := by omega
      have e : O = marks2 k xs.length := pairs_inj (by simpa using h1) (fun i hi' => by rw [g1_marks (by simpa using hi')]; exact (h2 i (by simp at hi'; omega)).1) (fun i hi' => by rw [g2_marks (by simpa using hi')]; exact (h2 i (by simp at hi'; omega)).2)
      subst e hkz
      have H5 := Lib.hid h5
      clear h5 h1 h2
      go_wp2
      go_ret
      exact ⟨rfl, h3, h4, H5.out⟩

set_option maxHeartbeats 800000 in
theorem heldVisS_any (A : Option Addr) (c n : Nat) (k : Int) (w : World) (h : Rd w A (pairs (marks2 k n))) (hl : n ≤ 1048592) (hk0 : 0 ≤ k) (hk1 : k ≤ 1000000000000) :
    Calls Try.prog 45 #[.slice A n c, .int .i64 k] w fun e w' => e = .returned (.int .i64 (k + 2 * (n : Nat))) ∧ w = w' := by
  go_enter Try.func45, Try.ntmps45
  go_wp2
  go_loop [1, 5] (fun m i => ∃ j : Nat, j ≤ n ∧ i = .int .i64 j ∧ m = .int .i64 (k + 2 * (j : Nat))) (fun _ i => n - (intOf i).toNat)
  case atStart => exact ⟨0, Nat.zero_le _, rfl, by simp⟩
  case round =>
    obtain ⟨j, hj, rfl, rfl⟩ := hrel
    by_cases hlt : j < n
    · obtain ⟨b, off, rfl, hb, hc1, hc2⟩ := h.pair_at (k := j) (by simpa using hlt)
      rw [g1_marks hlt] at hc1
      rw [g2_marks hlt] at hc2
      go_wp2
      go_round
      case rel => exact ⟨j + 1, by omega, by go_num, by go_num⟩
      case measure => simp [intOf]; omega
    · obtain rfl : j = n := by omega
      go_wp2
      go_ret
      exact ⟨rfl, rfl⟩

theorem eqInVis (x y u v : Int) (w : World) : (Op.equalIn 10000 44 (.agg #[.int .i64 x, .int .i64 y]) (.agg #[.int .i64 u, .int .i64 v])).run Try.prog w = .ok (decide (x = u ∧ y = v)) w := by
  have hf : (Try.prog.fieldsOf 44).toList.map (fun f => (f.name == "_", f.type, f.offset)) = [(false, 3, 0), (false, 3, 1)] := by kernel_rfl
  rw [run_equalIn_struct w 9999 44 _ _ (by kernel_rfl) (by kernel_rfl)]
  generalize (Try.prog.fieldsOf 44).toList = fs at hf
  have hlen : fs.length = 2 := by have := congrArg List.length hf; simpa using this
  match fs, hlen, hf with
  | [f0, f1], _, hf =>
    simp only [List.map_cons, List.map_nil, List.cons.injEq, Prod.mk.injEq, beq_eq_false_iff_ne] at hf
    obtain ⟨⟨n0, t0, o0⟩, ⟨n1, t1, o1⟩, _⟩ := hf
    have h3 := Try.underlying3
    have hp : ∀ (a b : Value) (w : World), (part 3 #[a, b] 0).run Try.prog w = .ok a w := fun a b w => by kernel_rfl
    have hq : ∀ (a b : Value) (w : World), (part 3 #[a, b] 1).run Try.prog w = .ok b w := fun a b w => by kernel_rfl
    by_cases h1 : x = u <;> by_cases h2 : y = v <;> simp [Op.eqFields, n0, t0, o0, n1, t1, o1, hp, hq, run_equalIn_int _ 9998 _ _ _ _ _ h3, h1, h2]
theorem guardVis (op : BinOp) (a b : Operand) (xs ys : Array Value) (w : World) : (eqGuard op 44 a b (.agg xs) (.agg ys)).run Try.prog w = .ok () w := run_eqGuard_agg w op _ a b xs ys (by kernel_rfl)


theorem szVisS_yes (A : Option Addr) (n c : Nat) (left : Int) (w : World) (h0 : (n : Int) ≤ left) (h1 : left ≤ 1048576) : Calls Try.prog 32 #[.slice A n c, .int .i64 left] w fun e w' => e = .returned (.int .i64 (left - (n : Nat))) ∧ w = w' := by
  go_enter Try.func32, Try.ntmps32
  go_wp2
  go_ret
  exact ⟨rfl, rfl⟩
theorem szVisS_no (A : Option Addr) (n c : Nat) (left : Int) (w : World) (h0 : left < (n : Int)) (h1 : 0 ≤ left) (h2 : left ≤ 1048576) (hn : n ≤ 9223372036854775807) : Calls Try.prog 32 #[.slice A n c, .int .i64 left] w fun e w' => e = .returned (.int .i64 (-1)) ∧ w = w' := by
  go_enter Try.func32, Try.ntmps32
  go_wp2
  go_ret
  exact ⟨rfl, rfl⟩
end Go.Proofs.Ytopneihamefohaa
