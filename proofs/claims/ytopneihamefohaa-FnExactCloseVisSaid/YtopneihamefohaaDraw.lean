/-
  The reader of codes: l6Open and pick. What is drawn is some number in its range; nothing else is said of it.
-/
import Derived.Test.YtopneihamefohaaInts
import Derived.Laws.BitsAllLaws
import Derived.Laws.BitsLemmas
namespace Go.Proofs.Ytopneihamefohaa
set_option linter.unusedVariables false
open Go.RowKit

/-- Block g is a reader that has drawn at most P numbers. -/
def Rdr (w : World) (g P : Nat) : Prop :=
  ∃ (A : Option Addr) (n c p : Nat), w.heap[g]? = some (.cells #[.slice A n c, .int .i64 (p : Int)] 76 (0, 0)) ∧ n ≤ 2000 ∧ p ≤ P ∧ Bytes w A n g

theorem Rdr.lt {w : World} {g P : Nat} (h : Rdr w g P) : g < w.heap.size := by
  obtain ⟨A, n, c, p, h, _⟩ := h
  exact (Array.getElem?_eq_some_iff.1 h).1
theorem Rdr.mono {w : World} {g P Q : Nat} (h : Rdr w g P) (hq : P ≤ Q) : Rdr w g Q := by
  obtain ⟨A, n, c, p, h, hn, hp, hb⟩ := h
  exact ⟨A, n, c, p, h, hn, by omega, hb⟩
theorem Rdr.below {w w' : World} {g P B : Nat} (h : Rdr w g P) (hb : Below B w w') (hB : g < B) : Rdr w' g P := by
  obtain ⟨A, n, c, p, h, hn, hp, hbs⟩ := h
  refine ⟨A, n, c, p, by rw [hb.block g hB]; exact h, hn, hp, fun h0 => ?_⟩
  obtain ⟨b, off, e, hlt, hc⟩ := hbs h0
  refine ⟨b, off, e, hlt, fun i hi => ?_⟩
  obtain ⟨v, h1, h2, h3⟩ := hc i hi
  exact ⟨v, h1, h2, by rw [hb.cell (p := ⟨b, off + i, none⟩) (by show b < B; omega)]; exact h3⟩
theorem Rdr.only {w w' : World} {g P lo hi : Nat} (h : Rdr w g P) (ho : Only w w' lo hi) (hlo : g < lo) : Rdr w' g P := by
  have hlt := h.lt
  have hb : Below (g + 1) w w' := ⟨ho.1, ho.2.1, ho.2.2.1, ho.2.2.2.1, fun k hk => ho.2.2.2.2 k (by omega) (.inl (by omega))⟩
  exact h.below hb (by omega)

theorem Rdr.step {w : World} {g P : Nat} {A : Option Addr} {n c p : Nat} (h : w.heap[g]? = some (.cells #[.slice A n c, .int .i64 (p : Int)] 76 (0, 0))) (hn : n ≤ 2000) (hp : p ≤ P) (hb : Bytes w A n g) :
    Rdr (w.setCell ⟨g, 1, none⟩ (.int .i64 ((p : Int) + 1))) g (P + 1) := by
  refine ⟨A, n, c, p + 1, ?_, hn, by omega, fun h0 => ?_⟩
  · simp [World.setCell, Array.getElem?_modify, h]
  · obtain ⟨b, off, e, hlt, hc⟩ := hb h0
    refine ⟨b, off, e, hlt, fun i hi => ?_⟩
    obtain ⟨v, h1, h2, h3⟩ := hc i hi
    exact ⟨v, h1, h2, by rw [World.cell?_setCell_other]; exact h3; intro e; injection e; omega⟩

theorem drewN_rdr {w : World} {g P : Nat} (h : Rdr w g P) (n : Nat) : Rdr (w.drewN n) g P := h
theorem mixed {x y : Int} {p n : Nat} (x1 : 0 ≤ x) (x2 : x < 256) (y1 : 0 ≤ y) (y2 : y < 256) (hp : p ≤ 1000000) :
    ∃ N : Nat, wrap64 (x * 131 + y * 1117 + (p : Int) * 29 + wrap64 (wrap64 ((p : Int) / (n : Int)) * 53)) = (N : Int) ∧ N ≤ 1000000000 := by
  have hd0 : 0 ≤ (p : Int) / (n : Int) := Int.ediv_nonneg (by omega) (by omega)
  have hd1 : (p : Int) / (n : Int) ≤ p := Int.ediv_le_self _ (by omega)
  rw [IntWalk.wrap64_in ((p : Int) / (n : Int)) ⟨by omega, by omega⟩]
  generalize (p : Int) / (n : Int) = d at *
  rw [IntWalk.wrap64_in (d * 53) ⟨by omega, by omega⟩, IntWalk.wrap64_in _ ⟨by omega, by omega⟩]
  exact ⟨(x * 131 + y * 1117 + (p : Int) * 29 + d * 53).toNat, by omega, by omega⟩
theorem ofInt_i64 (a : Nat) (ha : a < 9223372036854775808) : (BitVec.ofInt 64 (a : Int)).toNat = a := by
  rw [BitVec.ofInt_natCast, BitVec.toNat_ofNat]; exact Nat.mod_eq_of_lt (by omega)
theorem xor_small (N : Nat) (h : N ≤ 1000000000) : bits .xor .i64 (N : Int) ((N : Int) / 64) = ((N ^^^ (N / 64) : Nat) : Int) := by
  have hx : N ^^^ (N / 64) < 2 ^ 63 := Nat.xor_lt_two_pow (by omega) (by omega)
  have e : (N : Int) / 64 = ((N / 64 : Nat) : Int) := by omega
  rw [e]
  show IntKind.i64.wrap ((BitVec.ofInt 64 (N : Int) ^^^ BitVec.ofInt 64 ((N / 64 : Nat) : Int)).toNat : Int) = _
  rw [BitVec.toNat_xor, ofInt_i64 N (by omega), ofInt_i64 (N / 64) (by omega), IntKind.wrap_i64]
  omega

/-- some number in the range is drawn; the reader goes on -/
def Picked (w : World) (g P : Nat) (m : Int) (e : Ending) (w' : World) : Prop :=
  ∃ v : Int, e = .returned (.int .i64 v) ∧ 0 ≤ v ∧ (1 ≤ m → v < m) ∧ Rdr w' g (P + 1) ∧ Only w w' g (g + 1) ∧ w'.heap.size = w.heap.size

set_option maxHeartbeats 800000 in
theorem pick_any (g P : Nat) (m : Int) (w : World) (h : Rdr w g P) (hP : P ≤ 1000000) (hm : m ≤ 1000000) :
    Calls Try.prog 48 #[.pointer (some ⟨g, 0, none⟩), .int .i64 m] w (Picked w g P m) := by
  obtain ⟨A, n, c, p, hh, hn, hp, hbs⟩ := h
  have hc0 : w.cell? ⟨g, 0, none⟩ = some (.slice A n c) := by rw [cell_of_row w g 0 _ _ _ hh]; rfl
  have hc1 : w.cell? ⟨g, 1, none⟩ = some (.int .i64 (p : Int)) := by rw [cell_of_row w g 1 _ _ _ hh]; rfl
  have hf1 : w.frozen? ⟨g, 1, none⟩ = false := by simp [World.frozen?, hh]
  have hstep := Rdr.step hh hn hp hbs
  have honly : Only w (w.setCell ⟨g, 1, none⟩ (.int .i64 ((p : Int) + 1))) g (g + 1) := (Only.refl w g (g + 1)).setCell (Nat.le_refl _) (by simp) _
  have hsize : (w.setCell ⟨g, 1, none⟩ (.int .i64 ((p : Int) + 1))).heap.size = w.heap.size := by simp [World.setCell]
  have HS := Lib.hid hstep
  have HO := Lib.hid honly
  have HZ := Lib.hid hsize
  clear hstep honly hsize
  by_cases hm1 : m < 1
  · clear hbs hh
    go_enter Try.func48, Try.ntmps48
    go_wp2
    go_ret
    exact ⟨0, rfl, by omega, by omega, HS.out, HO.out, HZ.out⟩
  · by_cases hn0 : n = 0
    · subst hn0
      clear hbs hh
      go_enter Try.func48, Try.ntmps48
      go_wp2
      go_ret
      exact ⟨0, rfl, by omega, by omega, HS.out, HO.out, HZ.out⟩
    · obtain ⟨b, off, rfl, hlt, hc⟩ := hbs (by omega)
      have hne : ((n : Int) == 0) = false := by simp; omega
      have hbg : ¬ b = g := by omega
      have hgb : ¬ g = b := by omega
      by_cases hpn : p < n
      · obtain ⟨v, v1, v2, v3⟩ := hc p hpn
        have hmod : 0 ≤ v % m ∧ v % m < m := ⟨Int.emod_nonneg _ (by omega), Int.emod_lt_of_pos _ (by omega)⟩
        have HM := Lib.hid hmod
        clear hc hh hmod
        go_enter Try.func48, Try.ntmps48
        go_wp2
        go_ret
        exact ⟨_, rfl, HM.out.1, fun _ => HM.out.2, HS.out, HO.out, HZ.out⟩
      · obtain ⟨x, x1, x2, x3⟩ := hc (p % n) (Nat.mod_lt _ (by omega))
        obtain ⟨y, y1, y2, y3⟩ := hc ((p * 7 + 3) % n) (Nat.mod_lt _ (by omega))
        have hq1 : p % n < n := Nat.mod_lt _ (by omega)
        have hq2 : (p * 7 + 3) % n < n := Nat.mod_lt _ (by omega)
        have hp2 : p ≤ 1000000 := by omega
        clear hc hh
        go_enter Try.func48, Try.ntmps48
        go_wp2
        have e1 : (p : Int).tmod (n : Int) = ((p % n : Nat) : Int) := by rw [Int.tmod_eq_emod_of_nonneg (by omega)]; rfl
        have e2 : IntKind.i64.wrap ((p : Int) * 7) = (p : Int) * 7 := IntWalk.i64_in _ (by omega)
        have e3 : IntKind.i64.wrap ((p : Int) * 7 + 3) = (p : Int) * 7 + 3 := IntWalk.i64_in _ (by omega)
        have e4 : ((p : Int) * 7 + 3).tmod (n : Int) = (((p * 7 + 3) % n : Nat) : Int) := by rw [Int.tmod_eq_emod_of_nonneg (by omega)]; rfl
        generalize p % n = q1 at *
        generalize (p * 7 + 3) % n = q2 at *
        have i1 : (q1 : Int) < (n : Int) := by clear e1 e2 e3 e4; omega
        have i2 : (q2 : Int) < (n : Int) := by clear e1 e2 e3 e4; omega
        go_quiet (fail)
        clear e1 e2 e3 e4
        obtain ⟨N, hN, hN1⟩ := mixed x1 x2 y1 y2 hp2 (n := n)
        rw [hN]
        clear hN
        have hbx := xor_small N hN1
        generalize N ^^^ (N / 64) = M at *
        go_wp2
        have hmod : 0 ≤ (M : Int) % m ∧ (M : Int) % m < m := ⟨Int.emod_nonneg _ (by omega), Int.emod_lt_of_pos _ (by omega)⟩
        go_ret
        exact ⟨_, rfl, hmod.1, fun _ => hmod.2, drewN_rdr HS.out _, HO.out.drewN _, HZ.out⟩

theorem Bytes.below {w w' : World} {A : Option Addr} {n hi B : Nat} (h : Bytes w A n hi) (hb : Below B w w') (hB : hi ≤ B) : Bytes w' A n hi := by
  intro h0
  obtain ⟨b, off, e, hlt, hc⟩ := h h0
  refine ⟨b, off, e, hlt, fun i hi => ?_⟩
  obtain ⟨v, h1, h2, h3⟩ := hc i hi
  exact ⟨v, h1, h2, by rw [hb.cell (p := ⟨b, off + i, none⟩) (by show b < B; omega)]; exact h3⟩
theorem Bytes.less {w : World} {A : Option Addr} {n m hi : Nat} (h : Bytes w A n hi) (hm : m ≤ n) : Bytes w A m hi := by
  intro h0
  obtain ⟨b, off, e, hlt, hc⟩ := h (by omega)
  exact ⟨b, off, e, hlt, fun i hi => hc i (by omega)⟩
theorem Rdr.start (w : World) (A : Option Addr) (n c : Nat) (h : Bytes w A n w.heap.size) (hn : n ≤ 2000) : Rdr (w.alloc (.cells #[.slice A n c, .int .i64 0] 76)) w.heap.size 0 :=
  ⟨A, n, c, 0, heap_alloc_new w _, hn, Nat.le_refl _, h.below ((Below.refl w.heap.size w).alloc (Nat.le_refl _) _) (Nat.le_refl _)⟩

set_option maxHeartbeats 400000 in
theorem l6Open_any (A : Option Addr) (n c : Nat) (w : World) (h : Bytes w A n w.heap.size) (hc : n ≤ c) :
    Calls Try.prog 47 #[.slice A n c] w fun e w' => e = .returned (.pointer (some ⟨w.heap.size, 0, none⟩)) ∧ Rdr w' w.heap.size 0 ∧ Below w.heap.size w w' := by
  by_cases hn : n ≤ 2000
  · have hr := Lib.hid (Rdr.start w A n c h hn)
    go_enter Try.func47, Try.ntmps47
    go_wp2
    go_ret
    exact ⟨rfl, hr.out, (Below.refl _ _).alloc (Nat.le_refl _) _⟩
  · have hr := Lib.hid (Rdr.start w A 2000 c (h.less (by omega)) (Nat.le_refl _))
    obtain ⟨b, off, rfl, _⟩ := h (by omega)
    have hc2 : 2000 ≤ c := by omega
    go_enter Try.func47, Try.ntmps47
    go_wp2
    go_ret
    exact ⟨rfl, hr.out, (Below.refl _ _).alloc (Nat.le_refl _) _⟩
end Go.Proofs.Ytopneihamefohaa
