/-
  Contracts of the helpers over []bool: a copy, equality, marks; an argument of bools opened.
-/
import Derived.Test.YtopneihamefohaaInts
import Derived.Test.YtopneihamefohaaFrame
import Derived.Deep.Grids
namespace Go.Proofs.Ytopneihamefohaa
set_option linter.unusedVariables false
open Go.RowKit

theorem info_bool : (Try.prog.info? 4).map (fun i => (i.zero, i.size, i.bytes)) = some (some (.bool false), 1, 1) := by kernel_rfl
theorem gb_setB (O : List Bool) (k j : Nat) (z : Bool) (hk : k < O.length) : gb (O.set k z) j = if k = j then z else gb O j := by
  simp only [gb, List.getD_eq_getElem?_getD, List.getElem?_set]
  split <;> simp_all
theorem ext_gb {O zs : List Bool} (hl : O.length = zs.length) (h : ∀ j, j < zs.length → gb O j = gb zs j) : O = zs := by
  apply List.ext_getElem hl
  intro i h1 h2
  have := h i h2
  simpa [gb, List.getD_eq_getElem?_getD, h1, h2] using this
theorem bools_replicate (n : Nat) (z : Bool) : bools (List.replicate n z) = List.replicate n (.bool z) := by simp [bools]

section
variable {H : Type} {enc : TypeId × Value → H} {P : Program} {w : World} {base : Nat} {held : Bool}
open Go.Deep
/-- A slice of bools that came in reads as a list. -/
theorem in_bools {t e : TypeId} {a : Option Addr} {len cap : Nat} {d : DataW H} {p : List MemPlace} (ht : P.underlying t = some (.slice e)) (he : P.underlying e = some .bool) (hc : P.cellsOf e = 1)
    (h : DataW.Trod enc P w base (fun _ => true) held t (.slice a len cap) d p) : ∃ zs : List Bool, zs.length = len ∧ Rd w a (bools zs) := by
  obtain ⟨fuel, hf⟩ := h
  rcases open_bools ht he hc hf with ⟨hcs, _⟩ | ⟨x, l, c, B, hcs, _, hl, hm, _, hcell⟩
  · simp [Value.cells] at hcs
    obtain ⟨rfl, rfl, rfl⟩ := hcs
    exact ⟨[], rfl, Rd.none_⟩
  · simp [Value.cells] at hcs
    obtain ⟨rfl, rfl, rfl⟩ := hcs
    refine ⟨(List.range len).map B, by simp, fun h0 => ?_⟩
    simp only [bools_length, List.length_map, List.length_range] at h0
    obtain ⟨b, off, spot⟩ := x
    have hs : spot = none := by simpa [Addr.add] using World.cell?_spot (hcell 0 (by omega))
    subst hs
    refine ⟨b, off, rfl, fun i hi => ?_⟩
    simp only [bools_length, List.length_map, List.length_range] at hi
    have := hcell i (by omega)
    rw [add_plain] at this
    rw [this]
    simp [bools, hi]
end

/-- a copy in the making: the first k are copied -/
def CopyB (w wr : World) (lo : Nat) (A : Option Addr) (zs : List Bool) (k : Nat) : Prop :=
  ∃ O : List Bool, O.length = zs.length ∧ (∀ j, j < k → gb O j = gb zs j) ∧ Ow wr 4 lo (lo + 1) A (bools O) ∧ Below lo w wr ∧ wr.heap.size = lo + 1
theorem CopyB.step {w wr : World} {lo g off : Nat} {zs : List Bool} {k : Nat} {O : List Bool} (hk : k < zs.length) (h1 : O.length = zs.length) (h2 : ∀ j, j < k → gb O j = gb zs j)
    (h3 : ∀ u, Ow (wr.setCell ⟨g, off + k, none⟩ u) 4 lo (lo + 1) (some ⟨g, off, none⟩) ((bools O).set k u)) (h4 : Below lo w wr) (hs : wr.heap.size = lo + 1) (hg : lo ≤ g) :
    CopyB w (wr.setCell ⟨g, off + k, none⟩ (.bool (gb zs k))) lo (some ⟨g, off, none⟩) zs (k + 1) := by
  refine ⟨O.set k (gb zs k), by simpa using h1, fun j hj => ?_, by rw [← bools_set]; exact h3 _, h4.setCell hg _, by simpa [World.setCell] using hs⟩
  rw [gb_setB _ _ _ _ (by omega)]
  split
  · subst_vars; rfl
  · exact h2 j (by omega)
theorem CopyB.start (w : World) (zs : List Bool) : CopyB w (w.alloc (.cells (madeCells #[.bool false] zs.length) 4)) w.heap.size (some ⟨w.heap.size, 0, none⟩) zs 0 :=
  ⟨List.replicate zs.length false, by simp, fun j hj => absurd hj (by omega), by rw [bools_replicate]; exact Ow.made w _ _ _, (Below.refl _ _).alloc (Nat.le_refl _) _, by simp⟩

set_option maxHeartbeats 400000 in
theorem toBoolS_any (A : Option Addr) (cap : Nat) (zs : List Bool) (w : World) (h : Rd w A (bools zs)) (hl : zs.length ≤ 1048592) {n : Nat} (hn : zs.length = n) :
    Calls Try.prog 20 #[.slice A n cap] w fun e w' =>
      ∃ A', e = .returned (.slice A' n n) ∧ Ow w' 4 w.heap.size w'.heap.size A' (bools zs) ∧ Below w.heap.size w w' := by
  subst hn
  have hmk := fun w => run_make_row' (P := Try.prog) 27 4 (.bool false) 1 Try.underlying27 info_bool rfl .i64 .i64 zs.length (by omega) (by omega) w
  go_enter Try.func20, Try.ntmps20
  go_wp2
  clear hmk
  go_loopw [4] (fun i wr => ∃ k : Nat, k ≤ zs.length ∧ i = .int .i64 k ∧ CopyB w wr w.heap.size (some ⟨w.heap.size, 0, none⟩) zs k) (fun i _ => zs.length - (intOf i).toNat)
  case atStart => exact ⟨0, Nat.zero_le _, rfl, CopyB.start w zs⟩
  case round =>
    obtain ⟨k, hk, rfl, O, h1, h2, h3, h4, h5⟩ := hrel
    by_cases hlt : k < zs.length
    · have hr := h.below h4 (Nat.le_refl _)
      obtain ⟨b, off, rfl, hb, hc⟩ := hr.bool_at hlt
      obtain ⟨g, off', e, hg, hg2, hg3, hc', hf', hset⟩ := h3.cell_at (k := k) (by simpa using (by omega : k < O.length))
      injection e with e
      injection e with e1 e2
      subst e1 e2
      rw [bools_get (by omega)] at hc'
      have hfin := CopyB.step (w := w) hlt h1 h2 hset h4 h5 hg
      simp only [Nat.zero_add] at hc' hf' hfin
      have HF := Lib.hid hfin
      clear hfin hset h1 h2 h3
      go_wp2
      go_roundw
      case rel => exact ⟨k + 1, by omega, by go_num, HF.out⟩
      case measure => simp [intOf]; omega
    · have hkz : k = zs.length := by omega
      subst hkz
      have e := ext_gb h1 h2
      subst e
      go_wp2
      go_ret
      exact ⟨_, rfl, by rw [h5]; exact h3, h4⟩

def AgreeB (xs ys : List Bool) (k : Nat) : Prop := ∀ j, j < k → gb xs j = gb ys j
theorem AgreeB.step {xs ys : List Bool} {k : Nat} (h : AgreeB xs ys k) (e : gb xs k = gb ys k) : AgreeB xs ys (k + 1) := fun j hj => by
  by_cases hjk : j = k
  · rw [hjk]; exact e
  · exact h j (by omega)

set_option maxHeartbeats 400000 in
theorem eqBoolS_any (A B : Option Addr) (c d : Nat) (xs ys : List Bool) (w : World) (hx : Rd w A (bools xs)) (hy : Rd w B (bools ys)) (hl : xs.length ≤ 1048592) (hl' : ys.length ≤ 1048592) {n m : Nat} (hn : xs.length = n) (hm : ys.length = m) :
    Calls Try.prog 23 #[.slice A n c, .slice B m d] w fun e w' => e = .returned (.bool (decide (xs = ys))) ∧ Below w.heap.size w w' := by
  subst hn hm
  by_cases hlen : xs.length = ys.length
  · have hne : (((xs.length : Nat) : Int) != ((ys.length : Nat) : Int)) = false := by simp; omega
    have hl1 := Nat.le_of_eq hlen
    have hl2 := Nat.le_of_eq hlen.symm
    have HL := Lib.hid hlen
    clear hlen
    go_enter Try.func23, Try.ntmps23
    go_wp2
    clear hne
    go_loopw [5] (fun i wr => ∃ k : Nat, k ≤ xs.length ∧ i = .int .i64 k ∧ Below w.heap.size w wr ∧ AgreeB xs ys k) (fun i _ => xs.length - (intOf i).toNat)
    case atStart => exact ⟨0, Nat.zero_le _, rfl, Below.refl _ _, fun j hj => absurd hj (by omega)⟩
    case round =>
      obtain ⟨k, hk, rfl, hbel, hag⟩ := hrel
      by_cases hlt : k < xs.length
      · obtain ⟨b, off, rfl, hb, hc⟩ := (hx.below hbel (Nat.le_refl _)).bool_at hlt
        obtain ⟨b', off', rfl, hb', hc'⟩ := (hy.below hbel (Nat.le_refl _)).bool_at (k := k) (by omega)
        have hlt2 : k < ys.length := by omega
        have hi1 : (k : Int) < (xs.length : Int) := by omega
        have hi2 : (k : Int) < (ys.length : Int) := by omega
        have HA := Lib.hid (fun e : gb xs k = gb ys k => hag.step e)
        have HN := Lib.hid (show gb xs k ≠ gb ys k → xs ≠ ys by rintro h rfl; exact h rfl)
        clear hag
        generalize gb xs k = p at *
        generalize gb ys k = q at *
        rcases p with _ | _ <;> rcases q with _ | _
        · go_wp2
          go_quiet (fail)
          go_wp2
          go_roundw
          case rel => exact ⟨k + 1, by omega, by go_num, below_drewN hbel _, HA.out (by simp)⟩
          case measure => simp [intOf]; omega
        · go_wp2
          go_quiet (fail)
          go_wp2
          go_ret
          exact ⟨ret_bool (by rw [decide_eq_false]; exact HN.out (by simp)), below_drewN hbel _⟩
        · go_wp2
          go_quiet (fail)
          go_wp2
          go_ret
          exact ⟨ret_bool (by rw [decide_eq_false]; exact HN.out (by simp)), below_drewN hbel _⟩
        · go_wp2
          go_quiet (fail)
          go_wp2
          go_roundw
          case rel => exact ⟨k + 1, by omega, by go_num, below_drewN hbel _, HA.out (by simp)⟩
          case measure => simp [intOf]; omega
      · have e : xs = ys := by
          obtain rfl : k = xs.length := by omega
          exact ext_gb HL.out (fun j hj => hag j (by omega))
        have HE := Lib.hid e
        clear e
        go_wp2
        go_ret
        exact ⟨ret_bool (by simp [HE.out]), hbel⟩
  · have hne : (((xs.length : Nat) : Int) != ((ys.length : Nat) : Int)) = true := by simp; omega
    go_enter Try.func23, Try.ntmps23
    go_wp2
    go_ret
    exact ⟨ret_bool (by rw [decide_eq_false]; rintro rfl; exact hlen rfl), Below.refl _ _⟩

/-- some bools of the call's own -/
def OwB (w : World) (lo hi : Nat) (A : Option Addr) (n : Nat) : Prop := ∃ O : List Bool, O.length = n ∧ Ow w 4 lo hi A (bools O)
def MarkB (w wr : World) (lo hi : Nat) (A : Option Addr) (n : Nat) : Prop := OwB wr lo hi A n ∧ Only w wr lo hi ∧ wr.heap.size = w.heap.size
theorem MarkB.step {w wr : World} {lo hi g off : Nat} {n j : Nat} {O : List Bool} (hj : j < n) (h1 : O.length = n)
    (h3 : ∀ u, Ow (wr.setCell ⟨g, off + j, none⟩ u) 4 lo hi (some ⟨g, off, none⟩) ((bools O).set j u)) (h4 : Only w wr lo hi) (hs : wr.heap.size = w.heap.size) (hl : lo ≤ g) (hg : g < hi) (b : Bool) :
    MarkB w (wr.setCell ⟨g, off + j, none⟩ (.bool b)) lo hi (some ⟨g, off, none⟩) n :=
  ⟨⟨O.set j b, by simpa using h1, by rw [← bools_set]; exact h3 _⟩, h4.setCell hl hg _, by simpa [World.setCell] using hs⟩

set_option maxHeartbeats 400000 in
theorem markBoolS_any (A : Option Addr) (c lo hi : Nat) (xs : List Bool) (k : Int) (w : World) (h : Ow w 4 lo hi A (bools xs)) (hl : xs.length ≤ 1048592) (hk0 : 0 ≤ k) (hk1 : k ≤ 1000000000000) {n : Nat} (hn : xs.length = n) :
    Calls Try.prog 24 #[.slice A n c, .int .i64 k] w fun e w' => e = .returned (.int .i64 (k + (n : Nat))) ∧ OwB w' lo hi A n ∧ Only w w' lo hi ∧ w'.heap.size = w.heap.size := by
  subst hn
  go_enter Try.func24, Try.ntmps24
  go_wp2
  go_loopw [1, 5] (fun m i wr => ∃ j : Nat, j ≤ xs.length ∧ i = .int .i64 j ∧ m = .int .i64 (k + (j : Nat)) ∧ MarkB w wr lo hi A xs.length) (fun _ i _ => xs.length - (intOf i).toNat)
  case atStart => exact ⟨0, Nat.zero_le _, rfl, by simp, ⟨xs, rfl, h⟩, Only.refl _ _ _, rfl⟩
  case round =>
    obtain ⟨j, hj, rfl, rfl, ⟨O, h1, h3⟩, h4, h5⟩ := hrel
    by_cases hlt : j < xs.length
    · obtain ⟨g, off, rfl, hg1, hg2, hg3, hc, hf, hset⟩ := h3.cell_at (k := j) (by simpa using (by omega : j < O.length))
      rw [bools_get (by omega)] at hc
      have HF := Lib.hid (MarkB.step (w := w) hlt h1 hset h4 h5 hg1 hg2)
      clear hset h1 h3 h5 h4
      go_wp2
      go_roundw
      case rel => exact ⟨j + 1, by omega, by go_num, by go_num, HF.out _⟩
      case measure => simp [intOf]; omega
    · have hkz : j = xs.length := by omega
      subst hkz
      have H5 := Lib.hid h5
      have H1 := Lib.hid h1
      clear h5 h1
      go_wp2
      go_ret
      exact ⟨rfl, ⟨O, H1.out, h3⟩, h4, H5.out⟩
end Go.Proofs.Ytopneihamefohaa
