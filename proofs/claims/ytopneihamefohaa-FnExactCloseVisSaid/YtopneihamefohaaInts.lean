/-
  Contracts of the helpers over []int: a copy, equality, marks.
-/
import Derived.Test.YtopneihamefohaaMem
import Derived.Deep.AppendLies
namespace Go.Proofs.Ytopneihamefohaa
set_option linter.unusedVariables false
open Go.RowKit

theorem info_int : (Try.prog.info? 3).map (fun i => (i.zero, i.size, i.bytes)) = some (some (.int .i64 0), 1, 8) := by kernel_rfl

theorem gi_set (O : List Int) (k j : Nat) (z : Int) (hk : k < O.length) : gi (O.set k z) j = if k = j then z else gi O j := by
  simp only [gi, List.getD_eq_getElem?_getD, List.getElem?_set]
  split <;> simp_all
theorem ext_gi {O zs : List Int} (hl : O.length = zs.length) (h : ∀ j, j < zs.length → gi O j = gi zs j) : O = zs := by
  apply List.ext_getElem hl
  intro i h1 h2
  have := h i h2
  simpa [gi, List.getD_eq_getElem?_getD, h1, h2] using this
theorem made_get (z : Value) (n i : Nat) (h : i < n) : (madeCells #[z] n)[i]? = some z := by
  simp [madeCells, h, Nat.mod_one]
theorem Ow.made (w : World) (E : TypeId) (z : Value) (n : Nat) : Ow (w.alloc (.cells (madeCells #[z] n) E)) E w.heap.size (w.heap.size + 1) (some ⟨w.heap.size, 0, none⟩) (List.replicate n z) := by
  intro _
  refine ⟨w.heap.size, 0, _, rfl, Nat.le_refl _, Nat.lt_succ_self _, heap_alloc_new w _, fun i hi => ?_⟩
  simp only [List.length_replicate] at hi
  rw [Nat.zero_add, made_get z n i hi]
  simp [hi]
theorem ints_replicate (n : Nat) (z : Int) : ints (List.replicate n z) = List.replicate n (.int .i64 z) := by simp [ints]

/-- a copy in the making: the first k are copied -/
def CopyRel (w wr : World) (lo : Nat) (A : Option Addr) (zs : List Int) (k : Nat) : Prop :=
  ∃ O : List Int, O.length = zs.length ∧ (∀ j, j < k → gi O j = gi zs j) ∧ Ow wr 3 lo (lo + 1) A (ints O) ∧ Below lo w wr ∧ wr.heap.size = lo + 1

theorem CopyRel.step {w wr : World} {lo g off : Nat} {zs : List Int} {k : Nat} {O : List Int} (hk : k < zs.length) (h1 : O.length = zs.length) (h2 : ∀ j, j < k → gi O j = gi zs j)
    (h3 : ∀ u, Ow (wr.setCell ⟨g, off + k, none⟩ u) 3 lo (lo + 1) (some ⟨g, off, none⟩) ((ints O).set k u)) (h4 : Below lo w wr) (hs : wr.heap.size = lo + 1) (hg : lo ≤ g) :
    CopyRel w (wr.setCell ⟨g, off + k, none⟩ (.int .i64 (gi zs k))) lo (some ⟨g, off, none⟩) zs (k + 1) := by
  refine ⟨O.set k (gi zs k), by simpa using h1, fun j hj => ?_, by rw [← ints_set]; exact h3 _, h4.setCell hg _, by simpa [World.setCell] using hs⟩
  rw [gi_set _ _ _ _ (by omega)]
  split
  · subst_vars; rfl
  · exact h2 j (by omega)

theorem CopyRel.start (w : World) (zs : List Int) : CopyRel w (w.alloc (.cells (madeCells #[.int .i64 0] zs.length) 3)) w.heap.size (some ⟨w.heap.size, 0, none⟩) zs 0 :=
  ⟨List.replicate zs.length 0, by simp, fun j hj => absurd hj (by omega), by rw [ints_replicate]; exact Ow.made w _ _ _, (Below.refl _ _).alloc (Nat.le_refl _) _, by simp⟩

set_option maxHeartbeats 400000 in
theorem toIntS_any (A : Option Addr) (cap : Nat) (zs : List Int) (w : World) (h : Rd w A (ints zs)) (hl : zs.length ≤ 1048592) {n : Nat} (hn : zs.length = n) :
    Calls Try.prog 42 #[.slice A n cap] w fun e w' =>
      ∃ A', e = .returned (.slice A' n n) ∧ Ow w' 3 w.heap.size w'.heap.size A' (ints zs) ∧ Below w.heap.size w w' := by
  subst hn
  have hmk := fun w => run_make_row' (P := Try.prog) 28 3 (.int .i64 0) 8 Try.underlying28 info_int rfl .i64 .i64 zs.length (by omega) (by omega) w
  go_enter Try.func42, Try.ntmps42
  go_wp2
  clear hmk
  go_loopw [4] (fun i wr => ∃ k : Nat, k ≤ zs.length ∧ i = .int .i64 k ∧ CopyRel w wr w.heap.size (some ⟨w.heap.size, 0, none⟩) zs k) (fun i _ => zs.length - (intOf i).toNat)
  case atStart => exact ⟨0, Nat.zero_le _, rfl, CopyRel.start w zs⟩
  case round =>
    obtain ⟨k, hk, rfl, O, h1, h2, h3, h4, h5⟩ := hrel
    by_cases hlt : k < zs.length
    · have hr := h.below h4 (Nat.le_refl _)
      obtain ⟨b, off, rfl, hb, hc⟩ := hr.int_at hlt
      obtain ⟨g, off', e, hg, hg2, hg3, hc', hf', hset⟩ := h3.cell_at (k := k) (by simpa using (by omega : k < O.length))
      injection e with e
      injection e with e1 e2
      subst e1 e2
      rw [ints_get (by omega)] at hc'
      have hfin := CopyRel.step (w := w) hlt h1 h2 hset h4 h5 hg
      simp only [Nat.zero_add] at hc' hf' hfin
      have HF := Lib.hid hfin
      clear hfin hset h1 h2 h3
      go_wp2
      go_roundw
      case rel => exact ⟨k + 1, by omega, by go_num, HF.out⟩
      case measure => simp [intOf]; omega
    · have hkz : k = zs.length := by omega
      subst hkz
      have e := ext_gi h1 h2
      subst e
      go_wp2
      go_ret
      exact ⟨_, rfl, by rw [h5]; exact h3, h4⟩

def Agree (xs ys : List Int) (k : Nat) : Prop := ∀ j, j < k → gi xs j = gi ys j
theorem Agree.step {xs ys : List Int} {k : Nat} (h : Agree xs ys k) (e : gi xs k = gi ys k) : Agree xs ys (k + 1) := fun j hj => by
  by_cases hjk : j = k
  · rw [hjk]; exact e
  · exact h j (by omega)
theorem below_drewN {B : Nat} {a w : World} (h : Below B a w) (n : Nat) : Below B a (w.drewN n) := ⟨h.os, h.tape, h.output, h.size, h.block⟩

set_option maxHeartbeats 400000 in
theorem eqIntS_any (A B : Option Addr) (c d : Nat) (xs ys : List Int) (w : World) (hx : Rd w A (ints xs)) (hy : Rd w B (ints ys)) (hl : xs.length ≤ 1048592) (hl' : ys.length ≤ 1048592) {n m : Nat} (hn : xs.length = n) (hm : ys.length = m) :
    Calls Try.prog 22 #[.slice A n c, .slice B m d] w fun e w' => e = .returned (.bool (decide (xs = ys))) ∧ Below w.heap.size w w' := by
  subst hn hm
  by_cases hlen : xs.length = ys.length
  · have hne : (((xs.length : Nat) : Int) != ((ys.length : Nat) : Int)) = false := by simp; omega
    have hl1 := Nat.le_of_eq hlen
    have hl2 := Nat.le_of_eq hlen.symm
    have HL := Lib.hid hlen
    clear hlen
    go_enter Try.func22, Try.ntmps22
    go_wp2
    clear hne
    go_loopw [5] (fun i wr => ∃ k : Nat, k ≤ xs.length ∧ i = .int .i64 k ∧ Below w.heap.size w wr ∧ Agree xs ys k) (fun i _ => xs.length - (intOf i).toNat)
    case atStart => exact ⟨0, Nat.zero_le _, rfl, Below.refl _ _, fun j hj => absurd hj (by omega)⟩
    case round =>
      obtain ⟨k, hk, rfl, hbel, hag⟩ := hrel
      by_cases hlt : k < xs.length
      · obtain ⟨b, off, rfl, hb, hc⟩ := (hx.below hbel (Nat.le_refl _)).int_at hlt
        obtain ⟨b', off', rfl, hb', hc'⟩ := (hy.below hbel (Nat.le_refl _)).int_at (k := k) (by omega)
        have hlt2 : k < ys.length := by omega
        have hi1 : (k : Int) < (xs.length : Int) := by omega
        have hi2 : (k : Int) < (ys.length : Int) := by omega
        by_cases he : gi xs k = gi ys k
        · have hb1 : (gi xs k != gi ys k) = false := by simp [he]
          have HE := Lib.hid he
          clear he
          go_wp2
          go_quiet (fail)
          go_wp2
          go_roundw
          case rel => exact ⟨k + 1, by omega, by go_num, below_drewN hbel _, hag.step HE.out⟩
          case measure => simp [intOf]; omega
        · have hb1 : (gi xs k != gi ys k) = true := by simp [he]
          go_wp2
          go_quiet (fail)
          go_wp2
          go_ret
          exact ⟨ret_bool (by rw [decide_eq_false]; rintro rfl; exact he rfl), below_drewN hbel _⟩
      · have e : xs = ys := by
          obtain rfl : k = xs.length := by omega
          exact ext_gi HL.out (fun j hj => hag j (by omega))
        have HE := Lib.hid e
        clear e
        go_wp2
        go_ret
        exact ⟨ret_bool (by simp [HE.out]), hbel⟩
  · have hne : (((xs.length : Nat) : Int) != ((ys.length : Nat) : Int)) = true := by simp; omega
    go_enter Try.func22, Try.ntmps22
    go_wp2
    go_ret
    exact ⟨ret_bool (by rw [decide_eq_false]; rintro rfl; exact hlen rfl), Below.refl _ _⟩

set_option maxHeartbeats 400000 in
theorem sameInts_any (A B : Option Addr) (c d : Nat) (xs ys : List Int) (w : World) (hx : Rd w A (ints xs)) (hy : Rd w B (ints ys)) (hl : xs.length ≤ 1048592) (hl' : ys.length ≤ 1048592) {n m : Nat} (hn : xs.length = n) (hm : ys.length = m) :
    Calls Try.prog 28 #[.slice A n c, .slice B m d] w fun e w' => e = .returned (.bool (decide (xs = ys))) ∧ Below w.heap.size w w' := by
  subst hn hm
  by_cases hlen : xs.length = ys.length
  · have hne : (((xs.length : Nat) : Int) != ((ys.length : Nat) : Int)) = false := by simp; omega
    have hl1 := Nat.le_of_eq hlen
    have hl2 := Nat.le_of_eq hlen.symm
    have HL := Lib.hid hlen
    clear hlen
    go_enter Try.func28, Try.ntmps28
    go_wp2
    clear hne
    go_loopw [5] (fun i wr => ∃ k : Nat, k ≤ xs.length ∧ i = .int .i64 k ∧ Below w.heap.size w wr ∧ Agree xs ys k) (fun i _ => xs.length - (intOf i).toNat)
    case atStart => exact ⟨0, Nat.zero_le _, rfl, Below.refl _ _, fun j hj => absurd hj (by omega)⟩
    case round =>
      obtain ⟨k, hk, rfl, hbel, hag⟩ := hrel
      by_cases hlt : k < xs.length
      · obtain ⟨b, off, rfl, hb, hc⟩ := (hx.below hbel (Nat.le_refl _)).int_at hlt
        obtain ⟨b', off', rfl, hb', hc'⟩ := (hy.below hbel (Nat.le_refl _)).int_at (k := k) (by omega)
        have hlt2 : k < ys.length := by omega
        have hi1 : (k : Int) < (xs.length : Int) := by omega
        have hi2 : (k : Int) < (ys.length : Int) := by omega
        by_cases he : gi xs k = gi ys k
        · have hb1 : (gi xs k != gi ys k) = false := by simp [he]
          have HE := Lib.hid he
          clear he
          go_wp2
          go_quiet (fail)
          go_wp2
          go_roundw
          case rel => exact ⟨k + 1, by omega, by go_num, below_drewN hbel _, hag.step HE.out⟩
          case measure => simp [intOf]; omega
        · have hb1 : (gi xs k != gi ys k) = true := by simp [he]
          go_wp2
          go_quiet (fail)
          go_wp2
          go_ret
          exact ⟨ret_bool (by rw [decide_eq_false]; rintro rfl; exact he rfl), below_drewN hbel _⟩
      · have e : xs = ys := by
          obtain rfl : k = xs.length := by omega
          exact ext_gi HL.out (fun j hj => hag j (by omega))
        have HE := Lib.hid e
        clear e
        go_wp2
        go_ret
        exact ⟨ret_bool (by simp [HE.out]), hbel⟩
  · have hne : (((xs.length : Nat) : Int) != ((ys.length : Nat) : Int)) = true := by simp; omega
    go_enter Try.func28, Try.ntmps28
    go_wp2
    go_ret
    exact ⟨ret_bool (by rw [decide_eq_false]; rintro rfl; exact hlen rfl), Below.refl _ _⟩

def marks (k : Int) (n : Nat) : List Int := (List.range n).map fun i => k + (i : Nat)
@[simp] theorem marks_length (k : Int) (n : Nat) : (marks k n).length = n := by simp [marks]
theorem gi_marks {k : Int} {n j : Nat} (h : j < n) : gi (marks k n) j = k + (j : Nat) := by simp [marks, gi, h]

/-- marks in the making: the first j are laid -/
def MarkRel (w wr : World) (lo hi : Nat) (A : Option Addr) (k : Int) (n j : Nat) : Prop :=
  ∃ O : List Int, O.length = n ∧ (∀ i, i < j → gi O i = k + (i : Nat)) ∧ Ow wr 3 lo hi A (ints O) ∧ Only w wr lo hi ∧ wr.heap.size = w.heap.size

theorem MarkRel.step {w wr : World} {lo hi g off : Nat} {k : Int} {n j : Nat} {O : List Int} (hj : j < n) (h1 : O.length = n) (h2 : ∀ i, i < j → gi O i = k + (i : Nat))
    (h3 : ∀ u, Ow (wr.setCell ⟨g, off + j, none⟩ u) 3 lo hi (some ⟨g, off, none⟩) ((ints O).set j u)) (h4 : Only w wr lo hi) (hs : wr.heap.size = w.heap.size) (hl : lo ≤ g) (hg : g < hi) :
    MarkRel w (wr.setCell ⟨g, off + j, none⟩ (.int .i64 (k + (j : Nat)))) lo hi (some ⟨g, off, none⟩) k n (j + 1) := by
  refine ⟨O.set j (k + (j : Nat)), by simpa using h1, fun i hi' => ?_, by rw [← ints_set]; exact h3 _, h4.setCell hl hg _, by simpa [World.setCell] using hs⟩
  rw [gi_set _ _ _ _ (by omega)]
  split
  · subst_vars; rfl
  · exact h2 i (by omega)

set_option maxHeartbeats 400000 in
theorem markIntS_any (A : Option Addr) (c lo hi : Nat) (xs : List Int) (k : Int) (w : World) (h : Ow w 3 lo hi A (ints xs)) (hl : xs.length ≤ 1048592) (hk0 : 0 ≤ k) (hk1 : k ≤ 1000000000000) {n : Nat} (hn : xs.length = n) :
    Calls Try.prog 25 #[.slice A n c, .int .i64 k] w fun e w' => e = .returned (.int .i64 (k + (n : Nat))) ∧ Ow w' 3 lo hi A (ints (marks k n)) ∧ Only w w' lo hi ∧ w'.heap.size = w.heap.size := by
  subst hn
  go_enter Try.func25, Try.ntmps25
  go_wp2
  go_loopw [1, 5] (fun m i wr => ∃ j : Nat, j ≤ xs.length ∧ i = .int .i64 j ∧ m = .int .i64 (k + (j : Nat)) ∧ MarkRel w wr lo hi A k xs.length j) (fun _ i _ => xs.length - (intOf i).toNat)
  case atStart => exact ⟨0, Nat.zero_le _, rfl, by simp, xs, rfl, fun j hj => absurd hj (by omega), h, Only.refl _ _ _, rfl⟩
  case round =>
    obtain ⟨j, hj, rfl, rfl, O, h1, h2, h3, h4, h5⟩ := hrel
    by_cases hlt : j < xs.length
    · obtain ⟨g, off, rfl, hg1, hg2, hg3, hc, hf, hset⟩ := h3.cell_at (k := j) (by simpa using (by omega : j < O.length))
      rw [ints_get (by omega)] at hc
      have hfin := MarkRel.step (w := w) hlt h1 h2 hset h4 h5 hg1 hg2
      have HF := Lib.hid hfin
      have H5 := Lib.hid h5
      have H1 := Lib.hid h1
      clear hfin hset h1 h2 h3 h5
      go_wp2
      go_roundw
      case rel => exact ⟨j + 1, by omega, by go_num, by go_num, HF.out⟩
      case measure => simp [intOf]; omega
    · have hkz : j = xs.length := by omega
      have e : O = marks k xs.length := ext_gi (by simpa using h1) (fun i hi' => by rw [gi_marks (by simpa using hi')]; exact h2 i (by simp at hi'; omega))
      subst e hkz
      have H5 := Lib.hid h5
      clear h5 h1 h2
      go_wp2
      go_ret
      exact ⟨rfl, h3, h4, H5.out⟩

set_option maxHeartbeats 400000 in
theorem heldIntS_any (A : Option Addr) (c n : Nat) (k : Int) (w : World) (h : Rd w A (ints (marks k n))) (hl : n ≤ 1048592) (hk0 : 0 ≤ k) (hk1 : k ≤ 1000000000000) :
    Calls Try.prog 26 #[.slice A n c, .int .i64 k] w fun e w' => e = .returned (.int .i64 (k + (n : Nat))) ∧ w = w' := by
  go_enter Try.func26, Try.ntmps26
  go_wp2
  go_loop [1, 5] (fun m i => ∃ j : Nat, j ≤ n ∧ i = .int .i64 j ∧ m = .int .i64 (k + (j : Nat))) (fun _ i => n - (intOf i).toNat)
  case atStart => exact ⟨0, Nat.zero_le _, rfl, by simp⟩
  case round =>
    obtain ⟨j, hj, rfl, rfl⟩ := hrel
    by_cases hlt : j < n
    · obtain ⟨b, off, rfl, hb, hc⟩ := h.int_at (k := j) (by simpa using hlt)
      rw [gi_marks hlt] at hc
      go_wp2
      go_round
      case rel => exact ⟨j + 1, by omega, by go_num, by go_num⟩
      case measure => simp [intOf]; omega
    · obtain rfl : j = n := by omega
      go_wp2
      go_ret
      exact ⟨rfl, rfl⟩

/- appends -/
theorem own_da {w : World} {base : Nat} {e : TypeId} {size : Nat} {v : Value} {n : Nat} {xs : List Value} (h : w.ownsRow base e size v n xs) (o : Obj) : (w.alloc o).drew.ownsRow base e size v n xs := h.alloc o
theorem news_da (w : World) (x : Value) (E : TypeId) : ∀ j u, [x][j]? = some u → (w.alloc (.cells #[x] E)).drew.cell? ((⟨w.heap.size, 0, none⟩ : Addr).add j) = some u :=
  World.news_of_block (w := (w.alloc (.cells #[x] E)).drew) (cs := #[x]) (heap_alloc_new w _)
theorem base_da {w wr : World} {o : Obj} (h : w.heap.size ≤ wr.heap.size) : w.heap.size ≤ (wr.alloc o).drew.heap.size := by
  show _ ≤ (wr.heap.push o).size
  simp
  omega
theorem one_int (x : Int) : ∀ u ∈ [Value.int .i64 x], u.oneCell' = true := by simp [Value.oneCell']

theorem ints_append (xs ys : List Int) : ints (xs ++ ys) = ints xs ++ ints ys := by simp [ints]
theorem gi_append_left {xs : List Int} {j : Nat} (h : j < xs.length) (ys : List Int) : gi (xs ++ ys) j = gi xs j := by simp [gi, List.getElem?_append, h]
theorem gi_append_last (xs : List Int) (y : Int) : gi (xs ++ [y]) xs.length = y := by simp [gi]
theorem bel_append {w wr w1 : World} {o : Obj} {row : Option Nat} (h : Below w.heap.size w wr) (hg : (wr.alloc o).drew.grownBy w1 row) (hr : ∀ k, row = some k → w.heap.size ≤ k) : Below w.heap.size w w1 :=
  ((h.alloc h.size o).drew).grown hg (base_da h.size) hr

theorem news_a (w : World) (x : Value) (E : TypeId) : ∀ j u, [x][j]? = some u → (w.alloc (.cells #[x] E)).cell? ((⟨w.heap.size, 0, none⟩ : Addr).add j) = some u :=
  World.news_of_block (w := w.alloc (.cells #[x] E)) (cs := #[x]) (heap_alloc_new w _)
theorem Rd.olds {w : World} {A : Option Addr} {xs : List Value} (h : Rd w A xs) : ∀ b, A = some b → ∀ j u, xs[j]? = some u → w.cell? (b.add j) = some u := by
  intro b hb j u hu
  have hj : j < xs.length := (List.getElem?_eq_some_iff.1 hu).1
  obtain ⟨b', off, e, hc⟩ := h (by omega)
  rw [hb] at e
  injection e with e
  subst e
  have hadd : (⟨b', off, none⟩ : Addr).add j = ⟨b', off + j, none⟩ := by unfold Addr.add; split <;> simp_all
  rw [hadd, hc j hj, hu]
theorem Rd.nil_len {w : World} {A : Option Addr} {xs : List Value} (h : Rd w A xs) (hA : A = none) : xs.length = 0 := by
  rcases Nat.eq_zero_or_pos xs.length with h0 | h0
  · exact h0
  · obtain ⟨b, off, e, _⟩ := h h0
    rw [hA] at e
    cases e
end Go.Proofs.Ytopneihamefohaa
