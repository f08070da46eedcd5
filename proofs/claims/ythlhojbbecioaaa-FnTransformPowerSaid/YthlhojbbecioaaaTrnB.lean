/-
  Contracts of SkyTransform, of the program and of the reference, and of what tells grids apart.
-/
import Derived.Test.YthlhojbbecioaaaTrnA
import Derived.StillTailTactics
namespace Go.Proofs.Ythlhojbbecioaaa
set_option linter.unusedVariables false
open Go.RowKit

set_option maxHeartbeats 800000 in
theorem SkyTransform_any (A : Option Addr) (c : Nat) (s : List Int) (w : World) (h : Rd w A (ints s)) (hl : s.length ≤ 1048592) {n : Nat} (hn : s.length = n) :
    Calls Try.prog 15 #[.slice A n c] w (RetG w 31 (skyTrn s)) := by
  cases vs : skyB s with
  | false =>
    rw [trn_no vs]
    subst hn
    go_enter Try.func15, Try.ntmps15
    go_wp2_with fail
    refine (SkyValid_any _ _ _ _ h hl rfl).mono ?_; rintro e w' ⟨rfl, rfl⟩
    go_wp2
    go_ret2
    exact RetG.none_ _ _ (Below.refl _ _)
  | true =>
    rw [trn_mk vs]
    rw [skyB_len vs] at hn
    subst hn
    have HL := Lib.hid (skyB_len vs)
    go_enter Try.func15, Try.ntmps15
    go_wp2_with fail
    refine (SkyValid_any _ _ _ _ h hl HL.out).mono ?_; rintro e w' ⟨rfl, rfl⟩
    go_wp2_with fail
    refine (realGrid_any _ _ _ _ h hl HL.out).mono ?_
    rintro e w1 ⟨A1, c1, rfl, o1, b1⟩
    go_wp2_with fail
    refine (transform_any _ _ _ _ vs o1.rd).mono ?_
    rintro e w2 ⟨A2, c2, rfl, hc2, o2, b2⟩
    have s1 := b1.size
    have B := bel_trans b1 b2
    clear o1 b1 b2
    go_wp2
    go_ret2
    exact ⟨A2, c2, by simp, by simpa using hc2, o2.mono s1 (Nat.le_refl _), B⟩

set_option maxHeartbeats 800000 in
theorem sGaussUnit_any (k : Nat) (w : World) : Calls Try.prog 63 #[.int .i64 (k : Int)] w fun e w' => e = .returned (.agg #[.int .i64 (ure k), .int .i64 (uim k)]) ∧ Below w.heap.size w w' := by
  rcases (show k % 4 = 0 ∨ k % 4 = 1 ∨ k % 4 = 2 ∨ k % 4 = 3 by omega) with e | e | e | e
  · have h4 : (k : Int) % 4 = 0 := by omega
    obtain ⟨e1, e2⟩ := unit_at e
    rw [e1, e2]
    clear e e1 e2
    go_enter Try.func63, Try.ntmps63
    go_wp2_with (go_at_call 66; refine (l1Mod4_any _ _).mono ?_; rintro e w' ⟨rfl, rfl⟩; rw [h4])
    exact bodyPost_ret (v := .agg #[.int .i64 1, .int .i64 0]) (by simp [results, Try.results63, go_sem]) rfl ⟨rfl, by go_grown⟩
  · have h4 : (k : Int) % 4 = 1 := by omega
    obtain ⟨e1, e2⟩ := unit_at e
    rw [e1, e2]
    clear e e1 e2
    go_enter Try.func63, Try.ntmps63
    go_wp2_with (go_at_call 66; refine (l1Mod4_any _ _).mono ?_; rintro e w' ⟨rfl, rfl⟩; rw [h4])
    exact bodyPost_ret (v := .agg #[.int .i64 0, .int .i64 1]) (by simp [results, Try.results63, go_sem]) rfl ⟨rfl, by go_grown⟩
  · have h4 : (k : Int) % 4 = 2 := by omega
    obtain ⟨e1, e2⟩ := unit_at e
    rw [e1, e2]
    clear e e1 e2
    go_enter Try.func63, Try.ntmps63
    go_wp2_with (go_at_call 66; refine (l1Mod4_any _ _).mono ?_; rintro e w' ⟨rfl, rfl⟩; rw [h4])
    exact bodyPost_ret (v := .agg #[.int .i64 (-1), .int .i64 0]) (by simp [results, Try.results63, go_sem]) rfl ⟨rfl, by go_grown⟩
  · have h4 : (k : Int) % 4 = 3 := by omega
    obtain ⟨e1, e2⟩ := unit_at e
    rw [e1, e2]
    clear e e1 e2
    go_enter Try.func63, Try.ntmps63
    go_wp2_with (go_at_call 66; refine (l1Mod4_any _ _).mono ?_; rintro e w' ⟨rfl, rfl⟩; rw [h4])
    exact bodyPost_ret (v := .agg #[.int .i64 0, .int .i64 (-1)]) (by simp [results, Try.results63, go_sem]) rfl ⟨rfl, by go_grown⟩

set_option maxHeartbeats 400000 in
theorem l21Term_any (n : Int) (k : Nat) (w : World) (hn : -1000000 ≤ n ∧ n ≤ 1000000) : Calls Try.prog 45 #[.int .i64 n, .int .i64 (k : Int)] w fun e w' => e = .returned (.agg #[.int .i64 (n * ure k), .int .i64 (n * uim k)]) ∧ Below w.heap.size w w' := by
  obtain ⟨a1, a2⟩ := mul_bd hn (ure_bd k)
  obtain ⟨a3, a4⟩ := mul_bd hn (uim_bd k)
  go_enter Try.func45, Try.ntmps45
  go_wp2_with fail
  refine (sGaussUnit_any _ _).mono ?_
  rintro e w1 ⟨rfl, hb⟩
  have s1 : w1.heap.size ≥ w.heap.size + 1 := by have := hb.size; simp at this; omega
  have hd0 : w1.cell? ⟨w.heap.size, 0, none⟩ = some (.int .i64 0) := bel_cell hb (by simp) (by simp)
  have hd1 : w1.cell? ⟨w.heap.size, 1, none⟩ = some (.int .i64 0) := bel_cell hb (by simp) (by simp)
  have hf0 : w1.frozen? ⟨w.heap.size, 0, none⟩ = false := bel_free hb (by simp) (by simp)
  have hf1 : w1.frozen? ⟨w.heap.size, 1, none⟩ = false := bel_free hb (by simp) (by simp)
  have hlt : w.heap.size < w1.heap.size := by omega
  have HB0 : Hid (Below w.heap.size w w1) := Lib.hid (((Below.refl w.heap.size w).alloc (Nat.le_refl _) _).trans (hb.mono (by simp)))
  have hblk : w1.heap[w.heap.size]? = some (.cells #[.int .i64 0, .int .i64 0] 31 (0, 0)) := by rw [hb.block _ (by simp)]; exact heap_alloc_new w _
  obtain ⟨_, z0, z1⟩ := fin_two (u := .int .i64 (n * ure k)) (v := .int .i64 (n * uim k)) hblk (.cells #[.int .i64 (ure k), .int .i64 (uim k)] 31)
  have Z0 := Lib.hid z0
  have Z1 := Lib.hid z1
  clear z0 z1 hblk
  clear hb
  go_wp2
  exact bodyPost_ret (v := .agg #[.int .i64 (n * ure k), .int .i64 (n * uim k)]) (by simp [results, Try.results45, go_sem, Z0.out, Z1.out]) rfl ⟨rfl, ((HB0.out.setCell (Nat.le_refl _) _).setCell (Nat.le_refl _) _).alloc (by simp [World.setCell]; omega) _⟩

/-- a sum in the making, in the block b -/
def InW (wo wr : World) (s : List Int) (t b k : Nat) : Prop :=
  Only wo wr b (b + 1) ∧ wr.heap[b]? = some (.cells #[.int .i64 (tre s t k), .int .i64 (tim s t k)] 31 (0, 0))
theorem InW.step {wo wr w1 : World} {s : List Int} {t b k : Nat} (h : InW wo wr s t b k) (hb : Below wr.heap.size wr w1) (o : Obj) :
    InW wo (((w1.setCell ⟨b, 0, none⟩ (.int .i64 (tre s t k + gi s k * ure (ex t k)))).setCell ⟨b, 1, none⟩ (.int .i64 (tim s t k + gi s k * uim (ex t k)))).alloc o) s t b (k + 1) := by
  have hlt := (Array.getElem?_eq_some_iff.1 h.2).1
  have h1 : w1.heap[b]? = some (.cells #[.int .i64 (tre s t k), .int .i64 (tim s t k)] 31 (0, 0)) := by rw [hb.block _ hlt]; exact h.2
  exact ⟨(((h.1.trans (Only.of_below hb b (b + 1))).setCell (Nat.le_refl _) (Nat.lt_succ_self _) _).setCell (Nat.le_refl _) (Nat.lt_succ_self _) _).alloc o, (fin_two h1 o).1⟩
theorem ex_split (u v k : Nat) (hu : u < 4) : (u : Int) * ((k : Int) % 4) + (v : Int) * ((k : Int) / 4) = ((ex (4 * v + u) k : Nat) : Int) := by
  rw [ex_int]
  have e1 : ((4 * v + u : Nat) : Int) % 4 = (u : Int) := by omega
  have e2 : ((4 * v + u : Nat) : Int) / 4 = (v : Int) := by omega
  rw [e1, e2]

set_option maxHeartbeats 4000000 in
theorem sSkyTransform_yes (A : Option Addr) (c : Nat) (s : List Int) (w : World) (h : Rd w A (ints s)) (vs : skyB s = true) {n : Nat} (hn : s.length = n) :
    Calls Try.prog 16 #[.slice A n c] w (RetG w 31 (trn s, true)) := by
  rw [skyB_len vs] at hn
  subst hn
  have HL := Lib.hid (skyB_len vs)
  have hl : s.length ≤ 1048592 := by have := HL.out; omega
  obtain ⟨i0, hi, hz0, hz1, hz2⟩ := info_parts info_Gauss
  go_enter Try.func16, Try.ntmps16
  go_wp2_with fail
  refine (sSkyValid_any _ _ _ _ (h.below ((Below.refl w.heap.size w).alloc (Nat.le_refl _) _) (Nat.le_refl _)) hl HL.out).mono ?_; rintro e w' ⟨rfl, rfl⟩
  go_wp2
  go_loopw [4, 5] (fun o i wr => ∃ v : Nat, v ≤ 4 ∧ i = .int .i64 v ∧ ApG w wr 31 o (fun t => (tre s t 16, tim s t 16)) (4 * v)) (fun _ i _ => 4 - (intOf i).toNat)
  case atStart => exact ⟨0, Nat.zero_le _, rfl, World.ownsRow_made w #[] 0 (Nat.le_refl _) (by simp [maxLen]) rfl, (Below.refl _ _).alloc (Nat.le_refl _) _⟩
  case round =>
    obtain ⟨v, hv, rfl, hrel⟩ := hrel
    obtain ⟨wa, rfl⟩ : ∃ wa : World, wa = wr := ⟨_, rfl⟩
    by_cases hlt : v < 4
    · have HR := Lib.hid hrel
      clear hrel
      have hd1 : decide ((v : Int) < 4) = true := by simp; omega
      go_wp2
      go_loopw [4, 6] (fun o i wr => ∃ u : Nat, u ≤ 4 ∧ i = .int .i64 u ∧ ApG w wr 31 o (fun t => (tre s t 16, tim s t 16)) (4 * v + u)) (fun _ i _ => 4 - (intOf i).toNat)
      case atStart => exact ⟨0, Nat.zero_le _, rfl, HR.out⟩
      case round =>
        clear HR
        obtain ⟨u, hu, rfl, hrel⟩ := hrel
        obtain ⟨wm, rfl⟩ : ∃ wm : World, wm = wr := ⟨_, rfl⟩
        by_cases hlt2 : u < 4
        · have hd2 : decide ((u : Int) < 4) = true := by simp; omega
          have HR := Lib.hid hrel
          have hbm := hrel.2.size
          clear hrel
          go_wp2
          go_loopw [8] (fun i wr => ∃ k : Nat, k ≤ 16 ∧ i = .int .i64 k ∧ InW (wm.alloc (.cells #[.int .i64 0, .int .i64 0] 31)) wr s (4 * v + u) wm.heap.size k) (fun i _ => 16 - (intOf i).toNat)
          case atStart => exact ⟨0, Nat.zero_le _, rfl, Only.refl _ _ _, heap_alloc_new wm _⟩
          case round =>
            obtain ⟨k, hk, rfl, hin⟩ := hrel
            have hbw : Below w.heap.size w wr := hin.1.below (HR.out.2.alloc hbm _) (by omega) (Nat.le_refl _)
            by_cases hlt3 : k < 16
            · obtain ⟨b1, off, rfl, hb1, hc⟩ := (h.below hbw (Nat.le_refl _)).int_at (k := k) (by rw [HL.out]; exact hlt3)
              have p1 := mul_bd (x := (u : Int)) (y := (k : Int) % 4) (B := 3) (C := 3) (by omega) (by omega)
              have p2 := mul_bd (x := (v : Int)) (y := (k : Int) / 4) (B := 3) (C := 3) (by omega) (by omega)
              obtain ⟨p1, p1'⟩ := p1
              obtain ⟨p2, p2'⟩ := p2
              have HE := Lib.hid (ex_split u v k hlt2)
              obtain ⟨a1, a2⟩ := tre_bd vs (4 * v + u) hk
              obtain ⟨a3, a4⟩ := tim_bd vs (4 * v + u) hk
              obtain ⟨a7, a8⟩ := mul_bd (skyB_bd vs k) (ure_bd (ex (4 * v + u) k))
              obtain ⟨a9, a10⟩ := mul_bd (skyB_bd vs k) (uim_bd (ex (4 * v + u) k))
              have HV := Lib.hid (skyB_bd vs k)
              have HI := Lib.hid hin
              clear hin hbw
              go_wp2_with (go_at_call 44; refine (l21Cells_any _).mono ?_; rintro e w' ⟨rfl, rfl⟩)
              rw [HE.out]
              refine (l21Term_any _ _ _ (by have := HV.out; omega)).mono ?_
              rintro e w1 ⟨rfl, b1⟩
              have hblk : w1.heap[wm.heap.size]? = some (.cells #[.int .i64 (tre s (4 * v + u) k), .int .i64 (tim s (4 * v + u) k)] 31 (0, 0)) := by rw [b1.block _ (two_cells HI.out.2).2.2.2.2]; exact HI.out.2
              obtain ⟨c1, c2, f1, f2, hlt4⟩ := two_cells hblk
              have HS := Lib.hid (InW.step HI.out b1 (.cells #[.int .i64 (gi s k * ure (ex (4 * v + u) k)), .int .i64 (gi s k * uim (ex (4 * v + u) k))] 31))
              clear hblk b1 HE
              generalize ex (4 * v + u) k = E at *
              go_wp2
              go_roundw
              case rel => exact ⟨k + 1, by omega, by go_num, HS.out⟩
              case measure => simp [intOf]; omega
            · obtain rfl : k = 16 := by omega
              obtain ⟨c1, c2, f1, f2, hlt4⟩ := two_cells hin.2
              have hap := HR.out.kept hin.1
              have m1 := Lib.hid (show 4 * v + u + 1 ≤ maxLen by simp [maxLen]; omega)
              have m2 := Lib.hid (show (4 * v + u + 1) * 16 ≤ 140737488355328 by omega)
              have m3 := Lib.hid (base_a (o := .cells #[.int .i64 (tre s (4 * v + u) 16), .int .i64 (tim s (4 * v + u) 16)] 31) hap.2.size)
              have H1 := Lib.hid hap
              clear hap hin hbw HR
              go_wp2_with (first | (go_at_call 44; refine (l21Cells_any _).mono ?_; rintro e w' ⟨rfl, rfl⟩) | (at_builtin; refine wpList_append_lies _ rfl _ _ 25 rfl w.heap.size 31 i0 (.agg #[.int .i64 0, .int .i64 0]) 2 16 Try.underlying25 hi hz0 hz1 hz2 rfl (by decide) _ (4 * v + u) (pairs (upto (fun t => (tre s t 16, tim s t 16)) (4 * v + u))) rfl (H1.out.1.alloc _) ⟨wr.heap.size, 0, none⟩ 1 1 [.int .i64 (tre s (4 * v + u) 16), .int .i64 (tim s (4 * v + u) 16)] rfl rfl (news2 _ _ _ _) (one2 _ _) (by decide) m1.out m2.out m3.out _ rfl ?_; intro g cap w1 hown1 hgrow hat hlt1))
              go_roundw
              case rel => exact ⟨u + 1, by omega, by go_num, ApG.step (f := fun t => (tre s t 16, tim s t 16)) H1.out hown1 hgrow⟩
              case measure => simp [intOf]; omega
        · obtain rfl : u = 4 := by omega
          have HR := Lib.hid hrel
          clear hrel
          go_wp2
          go_roundw
          case rel => exact ⟨v + 1, by omega, by go_num, by rw [show 4 * (v + 1) = 4 * v + 4 by omega]; exact HR.out⟩
          case measure => simp [intOf]; omega
    · obtain rfl : v = 4 := by omega
      obtain ⟨Ao, co, rfl, hco, _⟩ := own_shape hrel.1
      have ho := Ow.of_own hrel.1
      have hb := hrel.2
      clear hrel
      go_wp2
      go_ret2
      exact ⟨Ao, co, by simp, by simpa using hco, ho, hb⟩

set_option maxHeartbeats 400000 in
theorem sSkyTransform_any (A : Option Addr) (c : Nat) (s : List Int) (w : World) (h : Rd w A (ints s)) (hl : s.length ≤ 1048592) {n : Nat} (hn : s.length = n) :
    Calls Try.prog 16 #[.slice A n c] w (RetG w 31 (skyTrn s)) := by
  cases vs : skyB s with
  | true => rw [trn_mk vs]; exact sSkyTransform_yes A c s w h vs hn
  | false =>
    rw [trn_no vs]
    subst hn
    go_enter Try.func16, Try.ntmps16
    go_wp2_with fail
    refine (sSkyValid_any _ _ _ _ (h.below ((Below.refl w.heap.size w).alloc (Nat.le_refl _) _) (Nat.le_refl _)) hl rfl).mono ?_; rintro e w' ⟨rfl, rfl⟩
    go_wp2
    go_ret2
    exact RetG.none_ _ _ ((Below.refl _ _).alloc (Nat.le_refl _) _)
end Go.Proofs.Ythlhojbbecioaaa
