/-
  What is drawn for visibilities and gains: some lists of pairs in new memory, and some numbers.
-/
import Derived.Test.YtpdekpeknnlfmaaDraw
import Derived.Test.YtpdekpeknnlfmaaVisA
namespace Go.Proofs.Ytpdekpeknnlfmaa
set_option linter.unusedVariables false
open Go.RowKit

theorem Only.grown {a b c : World} {lo hi : Nat} {row : Option Nat} (h : Only a b lo hi) (hg : b.grownBy c row) (hr : ∀ k, row = some k → a.heap.size ≤ k) : Only a c lo hi :=
  ⟨hg.os.trans h.1, hg.tape.trans h.2.1, hg.output.trans h.2.2.1, Nat.le_trans h.2.2.2.1 hg.size, fun k hk hne => (hg.block k (Nat.lt_of_lt_of_le hk h.2.2.2.1) (fun e => by have := hr k e.symm; omega)).trans (h.2.2.2.2 k hk hne)⟩
/-- a list in the drawing -/
def VW (w wr : World) (g P : Nat) (v : Value) (O : List (Int × Int)) : Prop :=
  wr.ownsRow w.heap.size 32 2 v O.length (pairs O) ∧ Rdr wr g P ∧ Only w wr g (g + 1)
theorem VW.pick {w wr w1 : World} {g P Q : Nat} {v : Value} {O : List (Int × Int)} (h : VW w wr g P v O) (hg : g < w.heap.size) (hr : Rdr w1 g Q) (ho : Only wr w1 g (g + 1)) : VW w w1 g Q v O :=
  ⟨own_same h.1 (fun q hq => ho.2.2.2.2 q (h.1.lt q hq).2 (.inr (by have := (h.1.lt q hq).1; omega))), hr, h.2.2.trans ho⟩
theorem VW.app {w wr w1 : World} {g P : Nat} {v v' : Value} {O : List (Int × Int)} {x y : Int} {o : Obj} {m : Nat} (h : VW w wr g P v O) (hg : g < w.heap.size) (hm : m = O.length + 1)
    (hown : w1.ownsRow w.heap.size 32 2 v' m (pairs O ++ [.int .i64 x, .int .i64 y])) (hgr : (wr.alloc o).grownBy w1 v.ownBlock) : VW w w1 g P v' (O ++ [(x, y)]) := by
  subst hm
  have hb : Below w.heap.size wr w1 := ((Below.refl w.heap.size wr).alloc h.2.2.size o).grown hgr (base_a h.2.2.size) (fun q hq => (h.1.lt q hq).1)
  refine ⟨by simpa [pairs_append, pairs_cons, pairs_nil] using hown, h.2.1.below hb hg, ?_⟩
  exact (h.2.2.alloc o).grown hgr (fun q hq => (h.1.lt q hq).1)
theorem VW.start {w : World} {g P : Nat} (h : Rdr w g P) : VW w (w.alloc (.cells #[] 32)) g P (.slice (some ⟨w.heap.size, 0, none⟩) 0 0) [] :=
  ⟨World.ownsRow_made w #[] 0 (Nat.le_refl _) (by simp [maxLen]) rfl, h.below ((Below.refl w.heap.size w).alloc (Nat.le_refl _) _) h.lt, (Only.refl _ _ _).alloc _⟩
theorem VW.more {w wr : World} {g P Q : Nat} {v : Value} {O : List (Int × Int)} (h : VW w wr g P v O) (hq : P ≤ Q) : VW w wr g Q v O := ⟨h.1, h.2.1.mono hq, h.2.2⟩
theorem VW.alloc {w wr : World} {g P : Nat} {v : Value} {O : List (Int × Int)} (h : VW w wr g P v O) (o : Obj) : VW w (wr.alloc o) g P v O :=
  ⟨h.1.alloc o, h.2.1.below ((Below.refl wr.heap.size wr).alloc (Nat.le_refl _) _) h.2.1.lt, h.2.2.alloc o⟩
/-- some list of pairs in new memory; the reader goes on -/
def DrewVis (w : World) (g P lo hi : Nat) (e : Ending) (w' : World) : Prop :=
  ∃ (A : Option Addr) (c : Nat) (ps : List (Int × Int)), e = .returned (.slice A ps.length c) ∧ lo ≤ ps.length ∧ ps.length ≤ hi ∧ ps.length ≤ c ∧ Ow w' 32 w.heap.size w'.heap.size A (pairs ps) ∧ Rdr w' g (P + 100) ∧ Only w w' g (g + 1)
theorem Ow.tail2 {w : World} {E : TypeId} {lo hi b off : Nat} {ps : List (Int × Int)} (h : Ow w E lo hi (some ⟨b, off, none⟩) (pairs ps)) : Ow w E lo hi (some ⟨b, off + 2, none⟩) (pairs ps.tail) := by
  intro h0
  cases ps with
  | nil => simp [pairs_nil] at h0
  | cons p ps =>
    obtain ⟨g, off', cur, e, hlo, hhi, hh, hc⟩ := h (by rw [pairs_cons]; simp)
    injection e with e
    injection e with e1 e2
    subst e1 e2
    refine ⟨b, off + 2, cur, rfl, hlo, hhi, hh, fun i hi => ?_⟩
    have := hc (i + 2) (by rw [pairs_cons]; simp at hi ⊢; omega)
    rw [show off + 2 + i = off + (i + 2) by omega, this, pairs_cons]
    simp
theorem two_of {w w1 : World} {x y k : Nat} {u v : Int} {E : TypeId} (ho : Only (w.alloc (.cells #[.int .i64 u, .int .i64 v] E)) w1 x y) (hg : y ≤ w.heap.size) (hk : k < 2) : ∃ z : Int, w1.cell? ⟨w.heap.size, k, none⟩ = some (.int .i64 z) ∧ (z = u ∨ z = v) := by
  have hb : w1.heap[w.heap.size]? = some (.cells #[.int .i64 u, .int .i64 v] E (0, 0)) := by
    rw [ho.2.2.2.2 w.heap.size (by simp) (.inr hg)]
    exact heap_alloc_new w _
  rw [cell_of_row w1 w.heap.size k _ _ _ hb]
  match k, hk with
  | 0, _ => exact ⟨u, rfl, .inl rfl⟩
  | 1, _ => exact ⟨v, rfl, .inr rfl⟩
theorem own_rows {w : World} {base n size : Nat} {E : TypeId} {v : Value} {xs : List Value} (h : w.ownsRow base E size v n xs) (hn : 0 < n) : ∃ g cap, v = .slice (some ⟨g, 0, none⟩) n cap ∧ n ≤ cap ∧ cap ≤ maxLen ∧ base ≤ g ∧ g < w.heap.size := by
  rcases h.2 with ⟨_, h0⟩ | ⟨g, cap, cur, rfl, hb, hh, hn', hm, _⟩
  · omega
  · exact ⟨g, cap, rfl, hn', hm, hb, (Array.getElem?_eq_some_iff.1 hh).1⟩

set_option maxHeartbeats 400000 in
theorem l91Phase_any (g P : Nat) (w : World) (h : Rdr w g P) (hP : P ≤ 900000) :
    Calls Try.prog 57 #[.pointer (some ⟨g, 0, none⟩)] w fun e w' => ∃ v : Int, e = .returned (.int .i64 v) ∧ 0 ≤ v ∧ v < 360 ∧ Rdr w' g (P + 3) ∧ Only w w' g (g + 1) := by
  go_enter Try.func57, Try.ntmps57
  go_wp2_with fail
  refine (pick_any _ _ 3 _ h (by omega) (by omega)).mono ?_
  rintro e w1 ⟨x, rfl, x0, x1, hr1, ho1, hs1⟩
  clear hs1 x1
  by_cases hx : x = 0
  · subst hx
    go_wp2_with fail
    refine (pick_any _ _ 4 _ hr1 (by omega) (by omega)).mono ?_
    rintro e w2 ⟨y, rfl, y0, y1, hr2, ho2, hs2⟩
    have y2 := y1 (by omega)
    clear hs2 y1
    go_wp2
    go_ret
    exact ⟨_, rfl, by omega, by omega, hr2.mono (by omega), ho1.trans ho2⟩
  · have e0 : (x == 0) = false := by simp [hx]
    go_wp2_with fail
    refine (pick_any _ _ 200 _ hr1 (by omega) (by omega)).mono ?_
    rintro e w2 ⟨y, rfl, y0, y1, hr2, ho2, hs2⟩
    have y2 := y1 (by omega)
    clear hs2 y1
    go_wp2_with fail
    refine (pick_any _ _ 2 _ hr2 (by omega) (by omega)).mono ?_
    rintro e w3 ⟨z, rfl, z0, z1, hr3, ho3, hs3⟩
    have z2 := z1 (by omega)
    clear hs3 z1
    go_wp2
    go_ret
    exact ⟨_, rfl, by omega, by omega, hr3, (ho1.trans ho2).trans ho3⟩

theorem seven_of {w w1 : World} {x y k : Nat} {E : TypeId} (ho : Only (w.alloc (.cells #[.int .i64 2, .int .i64 3, .int .i64 3, .int .i64 4, .int .i64 4, .int .i64 5, .int .i64 6] E)) w1 x y) (hg : y ≤ w.heap.size) (hk : k < 7) : ∃ z : Nat, w1.cell? ⟨w.heap.size, k, none⟩ = some (.int .i64 (z : Int)) ∧ 2 ≤ z ∧ z ≤ 6 := by
  have hb : w1.heap[w.heap.size]? = some (.cells #[.int .i64 2, .int .i64 3, .int .i64 3, .int .i64 4, .int .i64 4, .int .i64 5, .int .i64 6] E (0, 0)) := by
    rw [ho.2.2.2.2 w.heap.size (by simp) (.inr hg)]
    exact heap_alloc_new w _
  rw [cell_of_row w1 w.heap.size k _ _ _ hb]
  match k, hk with
  | 0, _ => exact ⟨2, rfl, by omega, by omega⟩
  | 1, _ => exact ⟨3, rfl, by omega, by omega⟩
  | 2, _ => exact ⟨3, rfl, by omega, by omega⟩
  | 3, _ => exact ⟨4, rfl, by omega, by omega⟩
  | 4, _ => exact ⟨4, rfl, by omega, by omega⟩
  | 5, _ => exact ⟨5, rfl, by omega, by omega⟩
  | 6, _ => exact ⟨6, rfl, by omega, by omega⟩
set_option maxHeartbeats 400000 in
theorem l91Ants_any (g P : Nat) (w : World) (h : Rdr w g P) (hP : P ≤ 900000) :
    Calls Try.prog 73 #[.pointer (some ⟨g, 0, none⟩)] w fun e w' => ∃ N : Nat, e = .returned (.int .i64 (N : Int)) ∧ 2 ≤ N ∧ N ≤ 6 ∧ Rdr w' g (P + 1) ∧ Only w w' g (g + 1) := by
  have hlt := h.lt
  have hr0 := Lib.hid (h.below ((Below.refl w.heap.size w).alloc (Nat.le_refl _) (.cells #[.int .i64 2, .int .i64 3, .int .i64 3, .int .i64 4, .int .i64 4, .int .i64 5, .int .i64 6] 3)) hlt)
  go_enter Try.func73, Try.ntmps73
  go_wp2_with fail
  refine (pick_any _ _ 7 _ hr0.out (by omega) (by omega)).mono ?_
  rintro e w1 ⟨x, rfl, x0, x1, hr1, ho1, hs1⟩
  have x2 := x1 (by omega)
  obtain ⟨x, rfl⟩ := Int.eq_ofNat_of_zero_le x0
  obtain ⟨z, hz, z2, z3⟩ := seven_of ho1 (by omega) (show x < 7 by omega)
  have HO := Lib.hid (((Only.refl w g (g + 1)).alloc _).trans ho1)
  clear hs1 x1 x0 hr0 ho1
  go_wp2
  go_ret
  exact ⟨z, rfl, z2, z3, hr1, HO.out⟩

set_option maxHeartbeats 2000000 in
theorem l91Gains_any (g P N : Nat) (w : World) (h : Rdr w g P) (hP : P ≤ 800000) (h2 : 2 ≤ N) (h7 : N ≤ 7) : Calls Try.prog 75 #[.pointer (some ⟨g, 0, none⟩), .int .i64 (N : Int)] w (DrewVis w g P 1 N) := by
  have hg := h.lt
  have hst := Lib.hid (VW.start h)
  obtain ⟨i0, hi, hz0, hz1, hz2⟩ := info_parts info_Vis
  go_enter Try.func75, Try.ntmps75
  go_wp2
  go_loopw [5, 6] (fun v i wr => ∃ (k : Nat) (O : List (Int × Int)), k ≤ N ∧ i = .int .i64 k ∧ O.length = k ∧ VW w wr g (P + 4 * k) v O) (fun _ i _ => N - (intOf i).toNat)
  case atStart => exact ⟨0, [], Nat.zero_le _, rfl, rfl, hst.out⟩
  case round =>
    clear hst
    obtain ⟨k, O, hk, rfl, rfl, hv⟩ := hrel
    by_cases hlt : O.length < N
    · have HV := Lib.hid hv
      clear hv
      go_wp2_with fail
      refine (pick_any _ _ 8 _ HV.out.2.1 (by omega) (by omega)).mono ?_
      rintro e w1 ⟨x, rfl, x0, x1, hr1, ho1, hs1⟩
      have x2 := x1 (by omega)
      have H1 := Lib.hid (HV.out.pick hg hr1 ho1)
      clear hs1 x1 HV hr1 ho1
      go_wp2_with fail
      refine (l91Phase_any _ _ _ H1.out.2.1 (by omega)).mono ?_
      rintro e w2 ⟨y, rfl, y0, y1, hr2, ho2⟩
      have H2 := Lib.hid (H1.out.pick hg hr2 ho2)
      clear H1 hr2 ho2
      have m1 := Lib.hid (show O.length + 1 ≤ maxLen by simp [maxLen]; omega)
      have m2 := Lib.hid (show (O.length + 1) * 16 ≤ 140737488355328 by omega)
      have m3 := Lib.hid (base_a (o := .cells #[.int .i64 (1 + x), .int .i64 y] 32) H2.out.2.2.size)
      go_wp2_with (at_builtin; refine wpList_append_lies _ rfl _ _ 23 rfl w.heap.size 32 i0 (.agg #[.int .i64 0, .int .i64 0]) 2 16 Try.underlying23 hi hz0 hz1 hz2 rfl (by decide) _ O.length (pairs O) rfl (H2.out.1.alloc _) ⟨w2.heap.size, 0, none⟩ 1 1 [.int .i64 (1 + x), .int .i64 y] rfl rfl (news2 _ _ _ _) (one2 _ _) (by decide) m1.out m2.out m3.out _ rfl ?_; intro gq cap w3 hown3 hgrow hat hlt3)
      have H3 := Lib.hid ((VW.app H2.out hg rfl hown3 hgrow).more (show P + 4 * O.length + 1 + 3 ≤ P + 4 * (O.length + 1) by omega))
      clear hown3 hgrow hat hlt3 H2
      go_roundw
      case rel => exact ⟨O.length + 1, O ++ [(1 + x, y)], by omega, by go_num, by simp, H3.out⟩
      case measure => simp [intOf]; omega
    · obtain rfl : N = O.length := by omega
      have HV := Lib.hid (hv.more (show P + 4 * O.length ≤ P + 50 by omega))
      clear hv
      go_wp2_with fail
      refine (pick_any _ _ 50 _ HV.out.2.1 (by omega) (by omega)).mono ?_
      rintro e w1 ⟨x, rfl, x0, x1, hr1, ho1, hs1⟩
      have H1 := Lib.hid (HV.out.pick hg hr1 ho1)
      clear hs1 x1 HV hr1 ho1
      obtain ⟨gq, cap, rfl, hcap, hcm, hgq1, hgq2⟩ := own_rows H1.out.1 (by omega)
      have ho := Ow.of_own H1.out.1
      obtain ⟨gg, off, e, _, _, _, hc1, hc2, hf1, hf2, _, hsx, hsy⟩ := ho.pair_at (k := 0) (by omega)
      injection e with e
      injection e with e1 e2
      subst e1 e2
      simp only [Nat.zero_mul, Nat.add_zero, Nat.zero_add] at hc1 hc2 hf1 hf2 hsx hsy
      have HX := Lib.hid (hsx 100)
      have HY := Lib.hid (hsy (-1))
      have HO := Lib.hid ho
      have i1 : (1 : Int) ≤ (cap : Int) := by omega
      have i2 : (1 : Int) ≤ (O.length : Int) := by omega
      have i3 : ¬ cap = 1 := by omega
      have i4 : ¬ (1 : Int) = (cap : Int) := by omega
      unfold maxLen at hcm
      clear ho hsx hsy
      by_cases hx0 : x = 0
      · subst hx0
        go_wp2
        go_ret
        exact ⟨_, cap, _, by simp, by simp; omega, by simp, by simp; omega, HX.out.mono (Nat.le_refl _) (by simp [World.setCell]), (H1.out.2.1.only ((Only.refl w1 gq (gq + 1)).setCell (Nat.le_refl _) (by simp) _) (by omega)).mono (by omega), H1.out.2.2.setNew hgq1 _⟩
      by_cases hx1 : x = 1
      · subst hx1
        go_wp2
        go_ret
        exact ⟨_, cap, _, by simp, by simp; omega, by simp, by simp; omega, HY.out.mono (Nat.le_refl _) (by simp [World.setCell]), (H1.out.2.1.only ((Only.refl w1 gq (gq + 1)).setCell (Nat.le_refl _) (by simp) _) (by omega)).mono (by omega), H1.out.2.2.setNew hgq1 _⟩
      have e0 : (x == 0) = false := by simp [hx0]
      have e1 : (x == 1) = false := by simp [hx1]
      by_cases hx2 : x = 2
      · subst hx2
        go_wp2
        go_ret
        exact ⟨some ⟨gq, 2, none⟩, cap - 1, O.tail, by simp, by simp; omega, by simp, by simp; omega, HO.out.tail2, H1.out.2.1.mono (by omega), H1.out.2.2⟩
      · have e2 : (x == 2) = false := by simp [hx2]
        go_wp2
        go_ret
        exact ⟨_, cap, O, rfl, by omega, Nat.le_refl _, hcap, HO.out, H1.out.2.1.mono (by omega), H1.out.2.2⟩

set_option maxHeartbeats 2000000 in
theorem l91Vis_any (g P N : Nat) (w : World) (h : Rdr w g P) (hP : P ≤ 800000) (h2 : 2 ≤ N) (h7 : N ≤ 7) : Calls Try.prog 74 #[.pointer (some ⟨g, 0, none⟩), .int .i64 (N : Int)] w (DrewVis w g P 1 (nb N + 1)) := by
  have hg := h.lt
  have hst := Lib.hid (VW.start h)
  have hn1 := nb_pos h2 h7
  have hn2 := nb_le h7
  have HB := Lib.hid (bm_nat h2 h7)
  obtain ⟨i0, hi, hz0, hz1, hz2⟩ := info_parts info_Vis
  generalize nb N = M at *
  go_enter Try.func74, Try.ntmps74
  go_wp2
  go_loopw [5, 6] (fun v i wr => ∃ (k : Nat) (O : List (Int × Int)), k ≤ M ∧ i = .int .i64 k ∧ O.length = k ∧ VW w wr g (P + 4 * k) v O) (fun _ i _ => M - (intOf i).toNat)
  case atStart => exact ⟨0, [], Nat.zero_le _, rfl, rfl, hst.out⟩
  case round =>
    clear hst
    obtain ⟨k, O, hk, rfl, rfl, hv⟩ := hrel
    by_cases hlt : O.length < M
    · have HV := Lib.hid hv
      clear hv
      go_wp2_with (go_at_call 87; refine (sBaseMany_any _ _).mono ?_; rintro e w' ⟨rfl, rfl⟩; rw [HB.out])
      refine (pick_any _ _ 12 _ HV.out.2.1 (by omega) (by omega)).mono ?_
      rintro e w1 ⟨x, rfl, x0, x1, hr1, ho1, hs1⟩
      have x2 := x1 (by omega)
      have H1 := Lib.hid (HV.out.pick hg hr1 ho1)
      clear hs1 x1 HV hr1 ho1
      go_wp2_with fail
      refine (l91Phase_any _ _ _ H1.out.2.1 (by omega)).mono ?_
      rintro e w2 ⟨y, rfl, y0, y1, hr2, ho2⟩
      have H2 := Lib.hid (H1.out.pick hg hr2 ho2)
      clear H1 hr2 ho2
      have m1 := Lib.hid (show O.length + 1 ≤ maxLen by simp [maxLen]; omega)
      have m2 := Lib.hid (show (O.length + 1) * 16 ≤ 140737488355328 by omega)
      have m3 := Lib.hid (base_a (o := .cells #[.int .i64 (1 + x), .int .i64 y] 32) H2.out.2.2.size)
      go_wp2_with (at_builtin; refine wpList_append_lies _ rfl _ _ 23 rfl w.heap.size 32 i0 (.agg #[.int .i64 0, .int .i64 0]) 2 16 Try.underlying23 hi hz0 hz1 hz2 rfl (by decide) _ O.length (pairs O) rfl (H2.out.1.alloc _) ⟨w2.heap.size, 0, none⟩ 1 1 [.int .i64 (1 + x), .int .i64 y] rfl rfl (news2 _ _ _ _) (one2 _ _) (by decide) m1.out m2.out m3.out _ rfl ?_; intro gq cap w3 hown3 hgrow hat hlt3)
      have H3 := Lib.hid ((VW.app H2.out hg rfl hown3 hgrow).more (show P + 4 * O.length + 1 + 3 ≤ P + 4 * (O.length + 1) by omega))
      clear hown3 hgrow hat hlt3 H2
      go_roundw
      case rel => exact ⟨O.length + 1, O ++ [(1 + x, y)], by omega, by go_num, by simp, H3.out⟩
      case measure => simp [intOf]; omega
    · obtain rfl : M = O.length := by omega
      obtain ⟨gq0, cap0, rfl, _⟩ := own_rows hv.1 (by omega)
      have HV := Lib.hid (hv.more (show P + 4 * O.length ≤ P + 90 by omega))
      have e9 : ((O.length : Int) == 0) = false := by rw [beq_eq_false_iff_ne]; omega
      clear hv
      go_wp2_with (go_at_call 87; refine (sBaseMany_any _ _).mono ?_; rintro e w' ⟨rfl, rfl⟩; rw [HB.out])
      refine (pick_any _ _ 50 _ HV.out.2.1 (by omega) (by omega)).mono ?_
      rintro e w1 ⟨x, rfl, x0, x1, hr1, ho1, hs1⟩
      have H1 := Lib.hid (HV.out.pick hg hr1 ho1)
      clear hs1 x1 HV hr1 ho1
      obtain ⟨gq, cap, e, hcap, hcm, hgq1, hgq2⟩ := own_rows H1.out.1 (by omega)
      injection e with ea eb ec
      injection ea with ea
      injection ea with ea1 ea2
      subst ea1 ec
      clear ea2 eb
      have ho := Ow.of_own H1.out.1
      obtain ⟨gg, off, e, _, _, _, hc1, hc2, hf1, hf2, _, hsx, hsy⟩ := ho.pair_at (k := 0) (by omega)
      injection e with e
      injection e with e1 e2
      subst e1 e2
      simp only [Nat.zero_mul, Nat.add_zero, Nat.zero_add] at hc1 hc2 hf1 hf2 hsx hsy
      have HX := Lib.hid hsx
      have HY := Lib.hid (hsy 360)
      have HO := Lib.hid ho
      have i1 : (0 : Int) < (O.length : Int) := by omega
      unfold maxLen at hcm
      clear ho hsx hsy
      by_cases hx0 : x = 0
      · subst hx0
        go_wp2_with fail
        refine (pick_any _ _ 2 _ (H1.out.alloc _).2.1 (by omega) (by omega)).mono ?_
        rintro e w2 ⟨y, rfl, y0, y1, hr2, ho2, hs2⟩
        have y2 := y1 (by omega)
        obtain ⟨y, rfl⟩ := Int.eq_ofNat_of_zero_le y0
        obtain ⟨z, hz, _⟩ := two_of ho2 (by have := H1.out.2.1.lt; omega) (show y < 2 by omega)
        have H2 := Lib.hid ((H1.out.alloc _).pick hg hr2 ho2)
        have ho := Ow.of_own H2.out.1
        obtain ⟨gg, off, e, _, _, hgs, kc1, kc2, kf1, kf2, _, ksx, _⟩ := ho.pair_at (k := 0) (by omega)
        injection e with e
        injection e with e1 e2
        subst e1 e2
        simp only [Nat.zero_mul, Nat.add_zero, Nat.zero_add] at kc1 kc2 kf1 kf2 ksx
        have KX := Lib.hid (ksx z)
        clear y1 hs2 ho2 H1 ho ksx HX HY HO hc1 hc2 hf1 hf2 hr2
        go_wp2
        go_ret
        exact ⟨_, cap0, _, by simp, by simp; omega, by simp, by simp; omega, KX.out.mono (Nat.le_refl _) (by simp [World.setCell]), (H2.out.2.1.only ((Only.refl w2 gq0 (gq0 + 1)).setCell (Nat.le_refl _) (by simp) _) (by omega)).mono (by omega), H2.out.2.2.setNew hgq1 _⟩
      by_cases hx1 : x = 1
      · subst hx1
        go_wp2
        go_ret
        exact ⟨_, cap0, _, by simp, by simp; omega, by simp, by simp; omega, HY.out.mono (Nat.le_refl _) (by simp [World.setCell]), (H1.out.2.1.only ((Only.refl w1 gq0 (gq0 + 1)).setCell (Nat.le_refl _) (by simp) _) (by omega)).mono (by omega), H1.out.2.2.setNew hgq1 _⟩
      have e0 : (x == 0) = false := by simp [hx0]
      have e1 : (x == 1) = false := by simp [hx1]
      by_cases hx2 : x = 2
      · subst hx2
        have m1 := Lib.hid (show O.length + 1 ≤ maxLen by simp [maxLen]; omega)
        have m2 := Lib.hid (show (O.length + 1) * 16 ≤ 140737488355328 by omega)
        have m3 := Lib.hid (base_a (o := .cells #[.int .i64 (g1 O 0), .int .i64 (g2 O 0)] 32) H1.out.2.2.size)
        go_wp2_with (at_builtin; refine wpList_append_lies _ rfl _ _ 23 rfl w.heap.size 32 i0 (.agg #[.int .i64 0, .int .i64 0]) 2 16 Try.underlying23 hi hz0 hz1 hz2 rfl (by decide) _ O.length (pairs O) rfl (H1.out.1.alloc _) ⟨w1.heap.size, 0, none⟩ 1 1 [.int .i64 (g1 O 0), .int .i64 (g2 O 0)] rfl rfl (news2 _ _ _ _) (one2 _ _) (by decide) m1.out m2.out m3.out _ rfl ?_; intro gz cap3 w3 hown3 hgrow hat hlt3)
        have H3 := VW.app H1.out hg rfl hown3 hgrow
        clear hown3 hgrow hat hlt3 H1
        go_ret
        obtain ⟨gq3, cap4, e, hcap4, _⟩ := own_rows H3.1 (by simp)
        have h31 : w3.ownsRow w.heap.size 32 2 (.slice (some ⟨gz, 0, none⟩) (O.length + 1) cap3) (O.length + 1) (pairs (O ++ [(g1 O 0, g2 O 0)])) := by have := H3.1; rw [List.length_append] at this; exact this
        have ho := Ow.of_own h31
        have e' := e
        injection e' with ea eb ec
        exact ⟨_, cap3, O ++ [(g1 O 0, g2 O 0)], by simp, by simp, by simp, by rw [ec]; simpa using hcap4, ho, H3.2.1.mono (by omega), H3.2.2⟩
      · have e2 : (x == 2) = false := by simp [hx2]
        go_wp2
        go_ret
        exact ⟨_, cap0, O, rfl, by omega, by omega, hcap, HO.out, H1.out.2.1.mono (by omega), H1.out.2.2⟩
/-- a number of antennas and two drawn lists -/
def DrewN2 (w : World) (lo hi lo' hi' : Nat → Nat) (e : Ending) (w' : World) : Prop :=
  ∃ (N : Nat) (A B : Option Addr) (c d : Nat) (as_ bs : List (Int × Int)), e = .returned (.tuple #[.int .i64 (N : Int), .slice A as_.length c, .slice B bs.length d]) ∧ 2 ≤ N ∧ N ≤ 6 ∧ as_.length ≤ 50 ∧ bs.length ≤ 50 ∧
    Ow w' 32 w.heap.size w'.heap.size A (pairs as_) ∧ Ow w' 32 w.heap.size w'.heap.size B (pairs bs) ∧ Below w.heap.size w w'

end Go.Proofs.Ytpdekpeknnlfmaa
