/-
  What is drawn for closure amplitudes.
-/
import Derived.Test.YtpdekpeknnlfmaaDrawVis
import Derived.Test.YtpdekpeknnlfmaaInts
namespace Go.Proofs.Ytpdekpeknnlfmaa
set_option linter.unusedVariables false
open Go.RowKit

/-- a number of antennas and some list of pairs in new memory; the reader goes on -/
def DrewMany (w : World) (g P least : Nat) (e : Ending) (w' : World) : Prop :=
  ∃ (N : Nat) (A : Option Addr) (c : Nat) (ps : List (Int × Int)), e = .returned (.tuple #[.int .i64 (N : Int), .slice A ps.length c]) ∧ least ≤ N ∧ N ≤ 6 ∧ 1 ≤ ps.length ∧ ps.length ≤ 50 ∧ ps.length ≤ c ∧ Ow w' 32 w.heap.size w'.heap.size A (pairs ps) ∧ Rdr w' g (P + 200) ∧ Only w w' g (g + 1)

set_option maxHeartbeats 400000 in
theorem l92Many_any (g P m : Nat) (w : World) (h : Rdr w g P) (hP : P ≤ 700000) (m2 : 2 ≤ m) (m6 : m ≤ 6) :
    Calls Try.prog 71 #[.pointer (some ⟨g, 0, none⟩), .int .i64 (m : Int)] w (DrewMany w g P m) := by
  go_enter Try.func71, Try.ntmps71
  go_wp2_with fail
  refine (l91Ants_any _ _ _ h (by omega)).mono ?_
  rintro e w1 ⟨K, rfl, k2, k6, hr1, ho1⟩
  have s1 := ho1.size
  go_wp2_with fail
  all_goals first
    | (
      have hnb := nb_le (show m ≤ 7 by omega)
      with_reducible refine (l91Vis_any _ _ m _ hr1 (by omega) (by omega) (by omega)).mono ?_
      rintro e w2 ⟨A, c, ps, rfl, l1, l2, lc, o, hr2, ho2⟩
      go_wp2
      go_ret2
      exact ⟨m, A, c, ps, rfl, by omega, by omega, l1, by omega, lc, o.mono s1 (Nat.le_refl _), hr2.mono (by omega), ho1.trans ho2⟩)
    | (
      have hnb := nb_le (show K ≤ 7 by omega)
      with_reducible refine (l91Vis_any _ _ K _ hr1 (by omega) (by omega) (by omega)).mono ?_
      rintro e w2 ⟨A, c, ps, rfl, l1, l2, lc, o, hr2, ho2⟩
      go_wp2
      go_ret2
      exact ⟨K, A, c, ps, rfl, by omega, by omega, l1, by omega, lc, o.mono s1 (Nat.le_refl _), hr2.mono (by omega), ho1.trans ho2⟩)

/-- a list of ints in the drawing -/
def IW (w wr : World) (g P : Nat) (v : Value) (O : List Int) : Prop :=
  wr.ownsRow w.heap.size 3 1 v O.length (ints O) ∧ Rdr wr g P ∧ Only w wr g (g + 1)
theorem IW.pick {w wr w1 : World} {g P Q : Nat} {v : Value} {O : List Int} (h : IW w wr g P v O) (hg : g < w.heap.size) (hr : Rdr w1 g Q) (ho : Only wr w1 g (g + 1)) : IW w w1 g Q v O :=
  ⟨own_same h.1 (fun q hq => ho.2.2.2.2 q (h.1.lt q hq).2 (.inr (by have := (h.1.lt q hq).1; omega))), hr, h.2.2.trans ho⟩
theorem IW.app {w wr w1 : World} {g P : Nat} {v v' : Value} {O : List Int} {x : Int} {o : Obj} {m : Nat} (h : IW w wr g P v O) (hg : g < w.heap.size) (hm : m = O.length + 1)
    (hown : w1.ownsRow w.heap.size 3 1 v' m (ints O ++ [.int .i64 x])) (hgr : (wr.alloc o).grownBy w1 v.ownBlock) : IW w w1 g P v' (O ++ [x]) := by
  subst hm
  have hb : Below w.heap.size wr w1 := ((Below.refl w.heap.size wr).alloc h.2.2.size o).grown hgr (base_a h.2.2.size) (fun q hq => (h.1.lt q hq).1)
  refine ⟨by simpa [ints_append, ints] using hown, h.2.1.below hb hg, ?_⟩
  exact (h.2.2.alloc o).grown hgr (fun q hq => (h.1.lt q hq).1)
theorem IW.start {w : World} {g P : Nat} (h : Rdr w g P) : IW w (w.alloc (.cells #[] 3)) g P (.slice (some ⟨w.heap.size, 0, none⟩) 0 0) [] :=
  ⟨World.ownsRow_made w #[] 0 (Nat.le_refl _) (by simp [maxLen]) rfl, h.below ((Below.refl w.heap.size w).alloc (Nat.le_refl _) _) h.lt, (Only.refl _ _ _).alloc _⟩
theorem IW.row {w wr : World} {g P : Nat} {v : Value} {O : List Int} (h : IW w wr g P v O) : ∃ A c, v = .slice A O.length c ∧ O.length ≤ c ∧ Ow wr 3 w.heap.size wr.heap.size A (ints O) ∧ Rdr wr g P ∧ Only w wr g (g + 1) := by
  obtain ⟨A, c, rfl, hc, _⟩ := own_shape h.1
  exact ⟨A, c, rfl, hc, Ow.of_own h.1, h.2⟩
/-- n numbers in new memory -/
def DrewI (w : World) (g P n : Nat) (e : Ending) (w' : World) : Prop :=
  ∃ (A : Option Addr) (c : Nat) (O : List Int), e = .returned (.slice A n c) ∧ O.length = n ∧ n ≤ c ∧ (∀ j, j < n → 0 ≤ gi O j ∧ gi O j ≤ 1000000) ∧ Ow w' 3 w.heap.size w'.heap.size A (ints O) ∧ Rdr w' g (P + 200) ∧ Only w w' g (g + 1)
def Small (O : List Int) : Prop := ∀ j, j < O.length → 0 ≤ gi O j ∧ gi O j ≤ 1000000
theorem Small.app {O : List Int} {x : Int} (h : Small O) (x0 : 0 ≤ x) (x1 : x ≤ 1000000) : Small (O ++ [x]) := fun j hj => by
  rw [List.length_append, List.length_singleton] at hj
  by_cases e : j < O.length
  · rw [gi_append_left e]; exact h j e
  · obtain rfl : j = O.length := by omega
    rw [gi_append_last]; exact ⟨x0, x1⟩
theorem Small.set {O : List Int} {x : Int} {k : Nat} (h : Small O) (hk : k < O.length) (x0 : 0 ≤ x) (x1 : x ≤ 1000000) : Small (O.set k x) := fun j hj => by
  rw [List.length_set] at hj
  rw [gi_set _ _ _ _ hk]
  split
  · exact ⟨x0, x1⟩
  · exact h j hj

theorem set_int {w w0 : World} {g : Nat} {A : Option Addr} {O : List Int} {lo hi : Nat} (h : Ow w 3 lo hi A (ints O)) {k : Nat} (hk : k < O.length) :
    ∃ b off, A = some ⟨b, off, none⟩ ∧ lo ≤ b ∧ b < hi ∧ b < w.heap.size ∧ w.cell? ⟨b, off + k, none⟩ = some (.int .i64 (gi O k)) ∧ w.frozen? ⟨b, off + k, none⟩ = false ∧ ∀ z, Ow (w.setCell ⟨b, off + k, none⟩ (.int .i64 z)) 3 lo hi (some ⟨b, off, none⟩) (ints (O.set k z)) := by
  obtain ⟨b, off, e, h1, h2, h3, h4, h5, h6⟩ := h.cell_at (k := k) (by simpa using hk)
  rw [ints_get hk] at h4
  exact ⟨b, off, e, h1, h2, h3, h4, h5, fun z => by rw [← ints_set]; exact h6 _⟩
set_option maxHeartbeats 2000000 in
theorem l92Apart_any (g P N : Nat) (w : World) (h : Rdr w g P) (hP : P ≤ 700000) (n2 : 2 ≤ N) (n7 : N ≤ 7) :
    Calls Try.prog 72 #[.pointer (some ⟨g, 0, none⟩), .int .i64 (N : Int), .int .i64 4] w (DrewI w g P 4) := by
  have hg := h.lt
  have hst := Lib.hid (IW.start h)
  obtain ⟨i0, hi, hz0, hz1, hz2⟩ := info_parts info_int
  have e4 : ((N : Int) == 0) = false := by simp; omega
  go_enter Try.func72, Try.ntmps72
  go_wp2_with fail
  refine (pick_any _ _ _ _ hst.out.2.1 (by omega) (by omega)).mono ?_
  rintro e w1 ⟨x, rfl, x0, x1, hr1, ho1, hs1⟩
  have x2 := x1 (by omega)
  have hst1 := Lib.hid (hst.out.pick hg hr1 ho1)
  clear hst x1 ho1 hr1 hs1
  go_wp2
  go_loopw [7, 8, 9] (fun v u i wr => ∃ (k : Nat) (y : Int) (O : List Int), k ≤ 4 ∧ i = .int .i64 k ∧ u = .int .i64 y ∧ 0 ≤ y ∧ y ≤ 10 + k ∧ O.length = k ∧ Small O ∧ IW w wr g (P + 1) v O) (fun _ _ i _ => 4 - (intOf i).toNat)
  case atStart => exact ⟨0, x, [], Nat.zero_le _, rfl, rfl, x0, by omega, rfl, fun j hj => absurd hj (by simp), hst1.out⟩
  case round =>
    clear hst1
    obtain ⟨k, y, O, hk, rfl, rfl, y0, y1, rfl, hS, hv⟩ := hrel
    by_cases hlt : O.length < 4
    · have HV := Lib.hid hv
      have m0 : 0 ≤ y % (N : Int) := Int.emod_nonneg _ (by omega)
      have m1' : y % (N : Int) < (N : Int) := Int.emod_lt_of_pos _ (by omega)
      have HS := Lib.hid (hS.app (x := y % (N : Int)) m0 (by omega))
      have d1 : decide ((O.length : Int) < 4) = true := by simp; omega
      have m1 := Lib.hid (show O.length + 1 ≤ maxLen by simp [maxLen]; omega)
      have m2 := Lib.hid (show (O.length + 1) * 8 ≤ 140737488355328 by omega)
      have m3 := Lib.hid (base_a (o := .cells #[.int .i64 (y % (N : Int))] 3) hv.2.2.size)
      have e2 : y.tmod (N : Int) = y % (N : Int) := Int.tmod_eq_emod_of_nonneg y0
      clear hv hS
      go_wp2_with (at_builtin; refine wpList_append_lies _ rfl _ _ 26 rfl w.heap.size 3 i0 (.int .i64 0) 1 8 Try.underlying26 hi hz0 hz1 hz2 rfl (by decide) _ O.length (ints O) rfl (HV.out.1.alloc _) ⟨wr.heap.size, 0, none⟩ 1 1 [.int .i64 (y % (N : Int))] rfl rfl (news_a _ _ _) (one_int _) (by decide) m1.out m2.out m3.out _ rfl ?_; intro g' cap w2 hown1 hgrow hat hlt1)
      go_roundw
      case rel => exact ⟨O.length + 1, y + 1, _, by omega, by go_num, rfl, by omega, by omega, by simp, HS.out, HV.out.app hg rfl hown1 hgrow⟩
      case measure => simp [intOf]; omega
    · have el : O.length = 4 := by omega
      have EL := Lib.hid el
      have d1 : decide ((O.length : Int) < 4) = false := by simp; omega
      obtain ⟨A, c, rfl, hc, o, hr, ho⟩ := hv.row
      rw [el] at hc
      have sw := ho.size
      clear hv
      have hc4 : 4 ≤ c := hc
      have l4 : (O.length : Int) = 4 := by omega
      go_wp2_with fail
      refine (pick_any _ _ 2 _ hr (by omega) (by omega)).mono ?_
      rintro e w2 ⟨z, rfl, z0, z1, hr2, ho2, hs2⟩
      have s2 := ho2.size
      replace o := o.only ho2 (.inr (by omega))
      replace ho := ho.trans ho2
      clear ho2 hr hs2 z1
      clear l4
      obtain ⟨b, off, rfl, o1, o2, o3, c0, f0, st0⟩ := set_int (w0 := w) (g := 0) o (k := 0) (by omega)
      rw [Nat.add_zero] at c0 f0 st0
      by_cases hz : z = 0
      · subst hz
        obtain ⟨b3, off3, e, _, _, _, c3, f3, _⟩ := set_int (w0 := w) (g := 0) o (k := 3) (by omega)
        injection e with e
        injection e with e1 e2
        subst e1 e2
        obtain ⟨b4, off4, e, _, _, _, _, _, st3⟩ := set_int (w0 := w) (g := 0) (st0 (gi O 3)) (k := 3) (by simp; omega)
        injection e with e
        injection e with e1 e2
        subst e1 e2
        have OA := Lib.hid (st3 (gi O 0))
        have on : Only w2 ((w2.setCell ⟨b, off, none⟩ (.int .i64 (gi O 3))).setCell ⟨b, off + 3, none⟩ (.int .i64 (gi O 0))) b (b + 1) := ((Only.refl w2 b (b + 1)).setCell (Nat.le_refl _) (by simp) _).setCell (Nat.le_refl _) (by simp) _
        have HR := Lib.hid (hr2.only on (by omega))
        have HO := Lib.hid ((ho.setNew (p := ⟨b, off, none⟩) (by simp; omega) (.int .i64 (gi O 3))).setNew (p := ⟨b, off + 3, none⟩) (by simp; omega) (.int .i64 (gi O 0)))
        have HSS := Lib.hid ((hS.set (k := 0) (x := gi O 3) (by omega) (hS 3 (by omega)).1 (hS 3 (by omega)).2).set (k := 3) (x := gi O 0) (by simp; omega) (hS 0 (by omega)).1 (hS 0 (by omega)).2)
        have hz2 : ((w2.setCell ⟨b, off, none⟩ (.int .i64 (gi O 3))).setCell ⟨b, off + 3, none⟩ (.int .i64 (gi O 0))).heap.size = w2.heap.size := by simp [World.setCell]
        have HZ := Lib.hid hz2
        clear on hz2 st3 st0 o hr2 ho
        go_wp2_with fail
        obtain ⟨W, hW⟩ : ∃ W : World, W = (w2.setCell ⟨b, off, none⟩ (.int .i64 (gi O 3))).setCell ⟨b, off + 3, none⟩ (.int .i64 (gi O 0)) := ⟨_, rfl⟩
        have o := OA.out
        have hr := HR.out
        have ho := HO.out
        have hz3 := HZ.out
        rw [← hW] at o hr ho hz3 ⊢
        have hs1 := Nat.le_of_eq hz3
        have hs2 := Nat.le_of_eq hz3.symm
        obtain ⟨Q, hQ⟩ : ∃ Q : List Int, Q = (O.set 0 (gi O 3)).set 3 (gi O 0) := ⟨_, rfl⟩
        have hSQ := HSS.out
        rw [← hQ] at o hSQ
        have lQ : Q.length = 4 := by rw [hQ]; simp; exact EL.out
        clear hW OA HR HO hz3 HZ HSS c0 f0 c3 f3 hQ hS
        refine (pick_any _ _ 24 _ hr (by omega) (by omega)).mono ?_
        rintro e w3 ⟨y, rfl, y0, y1, hr3, ho3, hs3⟩
        have s3 := ho3.size
        replace o := o.only ho3 (.inr (by omega))
        replace ho := ho.trans ho3
        clear ho3 hr hs3 y1
        obtain ⟨b3, off3, e, p1, p2, p3, c0, f0, st0⟩ := set_int (w0 := w) (g := 0) o (k := 0) (by omega)
        injection e with e
        injection e with e1 e2
        subst e1 e2
        obtain ⟨b3, off3, e, _, _, _, c3, f3, _⟩ := set_int (w0 := w) (g := 0) o (k := 3) (by omega)
        injection e with e
        injection e with e1 e2
        subst e1 e2
        rw [Nat.add_zero] at c0 f0 st0
        have X0 := Lib.hid (st0 (gi Q 3))
        have X1 := Lib.hid (st0 (N : Int))
        have XO := Lib.hid o
        have HS3 := Lib.hid (hSQ.set (k := 0) (x := gi Q 3) (by omega) (hSQ 3 (by omega)).1 (hSQ 3 (by omega)).2)
        have HS4 := Lib.hid (hSQ.set (k := 0) (x := (N : Int)) (by omega) (by omega) (by omega))
        have HS5 := Lib.hid hSQ
        have LQ := Lib.hid lQ
        clear st0 o lQ
        by_cases hy0 : y = 0
        · subst hy0
          go_wp2
          go_ret
          exact ⟨_, c, Q.set 0 (gi Q 3), rfl, by rw [List.length_set, LQ.out], hc4, by have := HS3.out; unfold Small at this; rw [List.length_set, LQ.out] at this; exact this, X0.out.mono (Nat.le_refl _) (by simp [World.setCell]; omega), (hr3.only ((Only.refl w3 b (b + 1)).setCell (Nat.le_refl _) (by simp) _) (by omega)).mono (by omega), ho.setNew p1 _⟩
        by_cases hy1 : y = 1
        · subst hy1
          go_wp2
          go_ret
          exact ⟨_, c, Q.set 0 (N : Int), rfl, by rw [List.length_set, LQ.out], hc4, by have := HS4.out; unfold Small at this; rw [List.length_set, LQ.out] at this; exact this, X1.out.mono (Nat.le_refl _) (by simp [World.setCell]; omega), (hr3.only ((Only.refl w3 b (b + 1)).setCell (Nat.le_refl _) (by simp) _) (by omega)).mono (by omega), ho.setNew p1 _⟩
        have z0' : (y == 0) = false := by simp [hy0]
        have z1' : (y == 1) = false := by simp [hy1]
        go_wp2
        go_ret
        exact ⟨_, c, Q, rfl, LQ.out, hc4, by have := HS5.out; unfold Small at this; rw [LQ.out] at this; exact this, XO.out.mono (Nat.le_refl _) (by omega), hr3.mono (by omega), ho⟩
      · have z0' : (z == 0) = false := by simp [hz]
        have hr := hr2
        have lQ := EL.out
        clear hr2 c0 f0 st0
        go_wp2_with fail
        refine (pick_any _ _ 24 _ hr (by omega) (by omega)).mono ?_
        rintro e w3 ⟨y, rfl, y0, y1, hr3, ho3, hs3⟩
        have s3 := ho3.size
        replace o := o.only ho3 (.inr (by omega))
        replace ho := ho.trans ho3
        clear ho3 hr hs3 y1
        obtain ⟨b3, off3, e, p1, p2, p3, c0, f0, st0⟩ := set_int (w0 := w) (g := 0) o (k := 0) (by omega)
        injection e with e
        injection e with e1 e2
        subst e1 e2
        obtain ⟨b3, off3, e, _, _, _, c3, f3, _⟩ := set_int (w0 := w) (g := 0) o (k := 3) (by omega)
        injection e with e
        injection e with e1 e2
        subst e1 e2
        rw [Nat.add_zero] at c0 f0 st0
        have X0 := Lib.hid (st0 (gi O 3))
        have X1 := Lib.hid (st0 (N : Int))
        have XO := Lib.hid o
        have HS3 := Lib.hid (hS.set (k := 0) (x := gi O 3) (by omega) (hS 3 (by omega)).1 (hS 3 (by omega)).2)
        have HS4 := Lib.hid (hS.set (k := 0) (x := (N : Int)) (by omega) (by omega) (by omega))
        have HS5 := Lib.hid hS
        have LQ := Lib.hid lQ
        clear st0 o lQ
        by_cases hy0 : y = 0
        · subst hy0
          go_wp2
          go_ret
          exact ⟨_, c, O.set 0 (gi O 3), rfl, by rw [List.length_set, LQ.out], hc4, by have := HS3.out; unfold Small at this; rw [List.length_set, LQ.out] at this; exact this, X0.out.mono (Nat.le_refl _) (by simp [World.setCell]; omega), (hr3.only ((Only.refl w3 b (b + 1)).setCell (Nat.le_refl _) (by simp) _) (by omega)).mono (by omega), ho.setNew p1 _⟩
        by_cases hy1 : y = 1
        · subst hy1
          go_wp2
          go_ret
          exact ⟨_, c, O.set 0 (N : Int), rfl, by rw [List.length_set, LQ.out], hc4, by have := HS4.out; unfold Small at this; rw [List.length_set, LQ.out] at this; exact this, X1.out.mono (Nat.le_refl _) (by simp [World.setCell]; omega), (hr3.only ((Only.refl w3 b (b + 1)).setCell (Nat.le_refl _) (by simp) _) (by omega)).mono (by omega), ho.setNew p1 _⟩
        have z0' : (y == 0) = false := by simp [hy0]
        have z1' : (y == 1) = false := by simp [hy1]
        go_wp2
        go_ret
        exact ⟨_, c, O, rfl, LQ.out, hc4, by have := HS5.out; unfold Small at this; rw [LQ.out] at this; exact this, XO.out.mono (Nat.le_refl _) (by omega), hr3.mono (by omega), ho⟩
/-- what is drawn for a closure amplitude -/
def DrewC (w : World) (e : Ending) (w' : World) : Prop :=
  ∃ (N : Nat) (A : Option Addr) (c : Nat) (ps : List (Int × Int)) (i j k l : Int), e = .returned (.tuple #[.int .i64 (N : Int), .slice A ps.length c, .int .i64 i, .int .i64 j, .int .i64 k, .int .i64 l]) ∧ 4 ≤ N ∧ N ≤ 6 ∧ ps.length ≤ 50 ∧ Ow w' 32 w.heap.size w'.heap.size A (pairs ps) ∧ Below w.heap.size w w'
set_option maxHeartbeats 2000000 in
theorem DrawCloseAmp_any (A : Option Addr) (n c : Nat) (w : World) (h : Bytes w A n w.heap.size) (hc : n ≤ c) : Calls Try.prog 30 #[.slice A n c] w (DrewC w) := by
  go_enter Try.func30, Try.ntmps30
  go_wp2_with fail
  refine (l6Open_any _ _ _ _ h hc).mono ?_
  rintro e w1 ⟨rfl, hr, hb⟩
  have s1 := hb.size
  have hlt := hr.lt
  go_wp2_with fail
  refine (l92Many_any _ _ 4 _ hr (by omega) (by omega) (by omega)).mono ?_
  rintro e w2 ⟨N, A1, c1, ps, rfl, n4, n6, l1, l2, lc, o, hr2, ho2⟩
  have s2 := ho2.size
  replace hb := ho2.below hb (Nat.le_refl _) (Nat.le_refl _)
  clear ho2 hr
  go_wp2_with fail
  refine (l92Apart_any _ _ N _ hr2 (by omega) (by omega) (by omega)).mono ?_
  rintro e w3 ⟨A2, c2, O, rfl, lo, lc2, hS, o2, hr3, ho3⟩
  have s3 := ho3.size
  replace o := o.only ho3 (.inr (by omega))
  replace hb := ho3.below hb (Nat.le_refl _) (Nat.le_refl _)
  clear ho3 hr2 hr3
  obtain ⟨b, off, rfl, hbl, q0⟩ := o2.rd.int_at (k := 0) (by omega)
  obtain ⟨b', off', e, _, q1⟩ := o2.rd.int_at (k := 1) (by omega)
  injection e with e
  injection e with e1 e2
  subst e1 e2
  obtain ⟨b', off', e, _, q2⟩ := o2.rd.int_at (k := 2) (by omega)
  injection e with e
  injection e with e1 e2
  subst e1 e2
  obtain ⟨b', off', e, _, q3⟩ := o2.rd.int_at (k := 3) (by omega)
  injection e with e
  injection e with e1 e2
  subst e1 e2
  rw [Nat.add_zero] at q0
  clear o2 lo hS
  go_wp2
  go_quiet (fail)
  go_wp2
  exact bodyPost_ret (v := .tuple #[.int .i64 (N : Int), .slice A1 ps.length c1, .int .i64 (gi O 0), .int .i64 (gi O 1), .int .i64 (gi O 2), .int .i64 (gi O 3)]) (by simp [results, Try.results30, go_sem]) rfl ⟨N, A1, c1, ps, _, _, _, _, rfl, n4, n6, l2, o.mono (Nat.le_trans s1 (Nat.le_refl _)) s3, below_drewN hb _⟩
end Go.Proofs.Ytpdekpeknnlfmaa
