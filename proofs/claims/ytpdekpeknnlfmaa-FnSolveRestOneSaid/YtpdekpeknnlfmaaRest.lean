/-
  Contract of the program's SolveRest.
-/
import Derived.Test.YtpdekpeknnlfmaaPhase
import Derived.Test.YtpdekpeknnlfmaaRound2
import Derived.Test.YtpdekpeknnlfmaaRemove
import Derived.Test.YtpdekpeknnlfmaaCampA
import Derived.Sort.CutIn
import Derived.BigQuiet
namespace Go.Proofs.Ytpdekpeknnlfmaa
set_option linter.unusedVariables false
open Go.RowKit Go.Shelf
attribute [local go_sem] Oper.semAt_some

theorem keeps_belR {W W' : World} (h : Below W.heap.size W W') : KeepsOthers W W' := ⟨h.size, fun k o ho _ => (h.block k (Array.getElem?_eq_some_iff.1 ho).1).trans ho⟩
/-- the greatest rest of those baselines that have come -/
def mxP {N : Nat} (f : Nat → Int) (pre : List (Bx N)) : Int := pre.foldl (fun m x => max m (f x.1)) 0
theorem mxP_snoc {N : Nat} (f : Nat → Int) (pre : List (Bx N)) (x : Bx N) : mxP f (pre ++ [x]) = max (mxP f pre) (f x.1) := by simp [mxP]
theorem mxP_all {N : Nat} {f : Nat → Int} {xs : List (Bx N)} (h : AllB xs) : mxP f xs = mx f (nb N) := by
  have h1 : ∀ (m : Int) (ys : List (Bx N)), ys.foldl (fun m x => max m (f x.1)) m = (ys.map (·.1)).foldl (fun m k => max m (f k)) m := fun m ys => by rw [List.foldl_map]
  have h2 : ∀ n, (List.range n).foldl (fun m k => max m (f k)) 0 = mx f n := fun n => by
    induction n with
    | zero => rfl
    | succ n ih => rw [List.range_succ, List.foldl_append, ih]; rfl
  unfold mxP
  rw [h1, show xs.map (·.1) = List.range xs.length from h.1, h2, h.2]
theorem mxP_bd {N : Nat} {f : Nat → Int} (h : ∀ k, f k ≤ 180) (pre : List (Bx N)) : 0 ≤ mxP f pre ∧ mxP f pre ≤ 180 := by
  have : ∀ (ys : List (Bx N)) (m : Int), 0 ≤ m → m ≤ 180 → 0 ≤ ys.foldl (fun m x => max m (f x.1)) m ∧ ys.foldl (fun m x => max m (f x.1)) m ≤ 180 := fun ys => by
    induction ys with
    | nil => exact fun m h0 h1 => ⟨h0, h1⟩
    | cons y ys ih => exact fun m h0 h1 => by have := h y.1; exact ih (max m (f y.1)) (by omega) (by omega)
  exact this pre 0 (by omega) (by omega)

/-- the boxes of SolveRest -/
structure RestSt (w W : World) (N : Nat) (L M F : Value) : Prop where
  n : Boxed W w.heap.size 3 (.int .i64 (N : Int))
  l : Boxed W (w.heap.size + 1) 23 L
  m : Boxed W (w.heap.size + 2) 23 M
  p : Boxed W (w.heap.size + 3) 26 F
  b : Below w.heap.size w W
theorem RestSt.keep {w W W' : World} {N : Nat} {L M F : Value} (h : RestSt w W N L M F) (hb : Below W.heap.size W W') : RestSt w W' N L M F :=
  ⟨box_bel h.n hb, box_bel h.l hb, box_bel h.m hb, box_bel h.p hb, h.b.trans (hb.mono h.b.size)⟩
theorem RestSt.set {w W : World} {N R : Nat} {L M F : Value} (h : RestSt w W N L M F) (hR : w.heap.size + 3 < R) (v : Value) : RestSt w (W.setCell ⟨R, 0, none⟩ v) N L M F :=
  ⟨h.n.other (by omega) v, h.l.other (by omega) v, h.m.other (by omega) v, h.p.other (by omega) v, h.b.setCell (p := ⟨R, 0, none⟩) (by show w.heap.size ≤ R; omega) v⟩
theorem RestSt.own {β : Type} {B : Nat} {w : World} {N : Nat} {L M F : Value} (hB : w.heap.size ≤ B) : OwnFrom B (fun (_ : β) W => RestSt w W N L M F) := fun s X Y row h hg hr => by
  have bx : ∀ {b : Nat} {t : TypeId} {u : Value}, Boxed X b t u → Boxed Y b t u := fun {b t u} hx => boxed_own b t (fun (_ : β) => u) s X Y row hx hg (fun r e => (hr r e).2)
  exact ⟨bx h.n, bx h.l, bx h.m, bx h.p, (show OwnFrom B (fun (_ : β) W => Below w.heap.size w W) from ownFrom_below (Nat.le_refl _) hB) s X Y row h.b hg hr⟩

/-- the world in which SolveRest has its boxes -/
def restW (w : World) (n : Int) (L M F : Value) : World := (((w.alloc (.cells #[.int .i64 n] 3)).alloc (.cells #[L] 23)).alloc (.cells #[M] 23)).alloc (.cells #[F] 26)
theorem restW_st (w : World) (n : Int) (L M F : Value) : Boxed (restW w n L M F) w.heap.size 3 (.int .i64 n) ∧ Boxed (restW w n L M F) (w.heap.size + 1) 23 L ∧ Boxed (restW w n L M F) (w.heap.size + 2) 23 M ∧ Boxed (restW w n L M F) (w.heap.size + 3) 26 F ∧ Below w.heap.size w (restW w n L M F) := by
  unfold restW
  refine ⟨(((Boxed.new w _ _).alloc _).alloc _).alloc _, ?_, ?_, ?_, (((((Below.refl _ _).alloc (Nat.le_refl _) _).alloc (by simp) _).alloc (by simp; omega) _)).alloc (by simp; omega) _⟩
  · have := ((Boxed.new (w.alloc (.cells #[.int .i64 n] 3)) 23 L).alloc (.cells #[M] 23)).alloc (.cells #[F] 26)
    simpa using this
  · have := (Boxed.new ((w.alloc (.cells #[.int .i64 n] 3)).alloc (.cells #[L] 23)) 23 M).alloc (.cells #[F] 26)
    simpa using this
  · have := Boxed.new (((w.alloc (.cells #[.int .i64 n] 3)).alloc (.cells #[L] 23)).alloc (.cells #[M] 23)) 26 F
    simpa using this
set_option maxHeartbeats 2000000 in
theorem SolveRest_no (n : Int) (A B C : Option Addr) (c d cc : Nat) (ls ms : List (Int × Int)) (ph : List Int) (w : World) (hls : Rd w A (pairs ls)) (hms : Rd w B (pairs ms)) (hph : Rd w C (ints ph)) (l1 : ls.length ≤ 1048592) (l2 : ms.length ≤ 1048592) (l3 : ph.length ≤ 1048592) (hb : restB n ls ms ph = false) :
    Calls Try.prog 22 #[.int .i64 n, .slice A ls.length c, .slice B ms.length d, .slice C ph.length cc] w fun e w' => e = .returned (.int .i64 (-1)) ∧ Below w.heap.size w w' := by
  obtain ⟨W0, hW0⟩ : ∃ W0 : World, W0 = restW w n (.slice A ls.length c) (.slice B ms.length d) (.slice C ph.length cc) := ⟨_, rfl⟩
  have x := restW_st w n (.slice A ls.length c) (.slice B ms.length d) (.slice C ph.length cc)
  rw [← hW0] at x
  unfold restW at hW0
  obtain ⟨x1, x2, x3, x4, xb⟩ := x
  have c1 := x1.cell
  have c2 := x2.cell
  cases v1 : visB n ls with
  | false =>
    go_enter Try.func22, Try.ntmps22
    go_wp2_with fail
    rw [← hW0]
    refine (VisValid_any _ _ _ _ _ (hls.below xb (Nat.le_refl _)) l1 rfl).mono ?_; rintro e w1 ⟨rfl, b1⟩
    rw [v1]
    have D := bel_trans xb b1
    clear b1
    go_wp2
    go_ret
    exact ⟨rfl, D⟩
  | true =>
  cases v2 : visB n ms with
  | false =>
    go_enter Try.func22, Try.ntmps22
    go_wp2_with fail
    rw [← hW0]
    refine (VisValid_any _ _ _ _ _ (hls.below xb (Nat.le_refl _)) l1 rfl).mono ?_; rintro e w1 ⟨rfl, b1⟩
    rw [v1]
    have D := bel_trans xb b1
    have k1 := (box_bel x1 b1).cell
    have k3 := (box_bel x3 b1).cell
    clear b1 c1 c2
    go_wp2_with fail
    refine (VisValid_any _ _ _ _ _ (hms.below D (Nat.le_refl _)) l2 rfl).mono ?_; rintro e w2 ⟨rfl, b2⟩
    rw [v2]
    have D2 := bel_trans D b2
    clear b2
    go_wp2
    go_ret
    exact ⟨rfl, D2⟩
  | true =>
  obtain ⟨N, rfl, n2, n7⟩ := many_nat (visB_ok v1).1
  by_cases hl : ph.length = N
  · have hp : allP ph = false := by
      cases hp : allP ph with
      | false => rfl
      | true => rw [restB_mk v1 v2 hl hp] at hb; cases hb
    have ne : ((ph.length : Int) != (N : Int)) = false := by rw [hl]; simp
    clear hl
    go_enter Try.func22, Try.ntmps22
    go_wp2_with fail
    rw [← hW0]
    refine (VisValid_any _ _ _ _ _ (hls.below xb (Nat.le_refl _)) l1 rfl).mono ?_; rintro e w1 ⟨rfl, b1⟩
    rw [v1]
    have D := bel_trans xb b1
    have k1 := (box_bel x1 b1).cell
    have k3 := (box_bel x3 b1).cell
    have y1 := box_bel x1 b1
    have y4 := box_bel x4 b1
    clear b1 c1 c2
    go_wp2_with fail
    refine (VisValid_any _ _ _ _ _ (hms.below D (Nat.le_refl _)) l2 rfl).mono ?_; rintro e w2 ⟨rfl, b2⟩
    rw [v2]
    have D2 := bel_trans D b2
    have j1 := (box_bel y1 b2).cell
    have j4 := (box_bel y4 b2).cell
    clear b2 k1 k3
    go_wp2_with fail
    refine (arePhases_any _ _ _ _ (hph.below D2 (Nat.le_refl _)) l3 rfl).mono ?_; rintro e w3 ⟨rfl, rfl⟩
    rw [hp]
    go_wp2
    go_ret
    exact ⟨rfl, D2⟩
  · have ne : ((ph.length : Int) != (N : Int)) = true := by simp; omega
    go_enter Try.func22, Try.ntmps22
    go_wp2_with fail
    rw [← hW0]
    refine (VisValid_any _ _ _ _ _ (hls.below xb (Nat.le_refl _)) l1 rfl).mono ?_; rintro e w1 ⟨rfl, b1⟩
    rw [v1]
    have D := bel_trans xb b1
    have k1 := (box_bel x1 b1).cell
    have k3 := (box_bel x3 b1).cell
    have y1 := box_bel x1 b1
    have y4 := box_bel x4 b1
    clear b1 c1 c2
    go_wp2_with fail
    refine (VisValid_any _ _ _ _ _ (hms.below D (Nat.le_refl _)) l2 rfl).mono ?_; rintro e w2 ⟨rfl, b2⟩
    rw [v2]
    have D2 := bel_trans D b2
    have j1 := (box_bel y1 b2).cell
    have j4 := (box_bel y4 b2).cell
    clear b2 k1 k3
    go_wp2
    go_ret
    exact ⟨rfl, D2⟩
set_option maxRecDepth 100000 in
set_option maxHeartbeats 2000000 in
theorem SolveRest_yes (N : Nat) (A B C : Option Addr) (c d cc : Nat) (ls ms : List (Int × Int)) (ph : List Int) (w : World) (hls : Rd w A (pairs ls)) (hms : Rd w B (pairs ms)) (hph : Rd w C (ints ph)) (hb : restB (N : Int) ls ms ph = true) :
    Calls Try.prog 22 #[.int .i64 (N : Int), .slice A ls.length c, .slice B ms.length d, .slice C ph.length cc] w fun e w' => e = .returned (.int .i64 (mx (restE ls ms ph N) (nb N))) ∧ Below w.heap.size w w' := by
  obtain ⟨N', eN, n2, n7, v1, v2, hl, hp⟩ := rest_parts hb
  obtain rfl : N = N' := by omega
  clear eN
  have hnb := nb_le n7
  have LL := Lib.hid (visB_len v1)
  have LM := Lib.hid (visB_len v2)
  have LP := Lib.hid hl
  have l1 : ls.length ≤ 1048592 := by rw [LL.out]; omega
  have l2 : ms.length ≤ 1048592 := by rw [LM.out]; omega
  have l3 : ph.length ≤ 1048592 := by omega
  obtain ⟨W0, hW0⟩ : ∃ W0 : World, W0 = restW w (N : Int) (.slice A ls.length c) (.slice B ms.length d) (.slice C ph.length cc) := ⟨_, rfl⟩
  have x := restW_st w (N : Int) (.slice A ls.length c) (.slice B ms.length d) (.slice C ph.length cc)
  rw [← hW0] at x
  unfold restW at hW0
  have st0 : RestSt w W0 N (.slice A ls.length c) (.slice B ms.length d) (.slice C ph.length cc) := ⟨x.1, x.2.1, x.2.2.1, x.2.2.2.1, x.2.2.2.2⟩
  clear x
  have ne : ((ph.length : Int) != (N : Int)) = false := by rw [LP.out]; simp
  clear hl
  refine (callsIn_wide (n := 6)).1 ?_
  refine callsIn_of_wp_marks Try.func22 rfl trivial ?_ rfl
  simp only [Try.ntmps22, List.size_toArray, List.length_cons, List.length_nil, Nat.reduceAdd, Nat.reduceSub, Array.replicate_succ, Array.replicate_zero, List.push_toArray, List.append_toArray, List.nil_append, List.cons_append]
  have c1 := st0.n.cell
  have c2 := st0.l.cell
  gi_wp2_with fail
  rw [← hW0]
  refine ⟨trivial, (callsIn_wide.2 (VisValid_any _ _ _ _ _ (hls.below st0.b (Nat.le_refl _)) l1 rfl)).mono ?_⟩
  rintro e w1 ⟨rfl, b1⟩
  rw [v1]
  have st1 := st0.keep b1
  clear b1 c1 c2 hW0 st0
  have c1 := st1.n.cell
  have c3 := st1.m.cell
  gi_wp2_with fail
  refine ⟨trivial, (callsIn_wide.2 (VisValid_any _ _ _ _ _ (hms.below st1.b (Nat.le_refl _)) l2 rfl)).mono ?_⟩
  rintro e w2 ⟨rfl, b2⟩
  rw [v2]
  have st2 := st1.keep b2
  clear b2 c1 c3 st1
  have c1 := st2.n.cell
  have c4 := st2.p.cell
  gi_wp2_with fail
  refine ⟨trivial, (callsIn_wide.2 (arePhases_any _ _ _ _ (hph.below st2.b (Nat.le_refl _)) l3 rfl)).mono ?_⟩
  rintro e w3 ⟨rfl, rfl⟩
  rw [hp]
  have nc := (box_bel st2.n ((Below.refl w2.heap.size w2).alloc (Nat.le_refl _) (.cells #[.int .i64 0] 3))).cell
  have nc2 := ((box_bel st2.n ((Below.refl w2.heap.size w2).alloc (Nat.le_refl _) (.cells #[.int .i64 0] 3))).other (show w.heap.size ≠ w2.heap.size by have := st2.n.lt; omega) (.int .i64 0)).cell
  gi_wp2_with (refine ⟨trivial, ?_⟩; gi_at_call 54; refine (callsIn_wide.2 (bases_any _ _)).mono ?_; rintro e w' ⟨rfl, rfl⟩)
  simp only [Nat.add_assoc, Nat.reduceAdd]
  obtain ⟨W3, hW3⟩ : ∃ W3 : World, W3 = (w2.alloc (.cells #[.int .i64 0] 3)).alloc (.cells #[.int .i64 (N : Int)] 3) := ⟨_, rfl⟩
  rw [← hW3]
  have B3 : Below w2.heap.size w2 W3 := by rw [hW3]; exact ((Below.refl _ _).alloc (Nat.le_refl _) _).alloc (by simp) _
  have st3 := st2.keep B3
  have bR : Boxed W3 w2.heap.size 3 (.int .i64 0) := by rw [hW3]; exact (Boxed.new w2 _ _).alloc _
  have bN : Boxed W3 (w2.heap.size + 1) 3 (.int .i64 (N : Int)) := by rw [hW3]; have := Boxed.new (w2.alloc (.cells #[.int .i64 0] 3)) 3 (.int .i64 (N : Int)); simpa using this
  have s3 : w2.heap.size + 2 ≤ W3.heap.size := by rw [hW3]; simp
  have hz := st2.p.lt
  clear hW3 B3 st2 nc nc2 c1 c4 ne
  refine' wpIn_rangeFunc_ownG rfl (by decide) (gf := 80) (lb := #[.pointer (some ⟨w2.heap.size + 1, 0, none⟩)]) rfl trivial (enters_of Try.func80 (by kernel_rfl) rfl)
    (bases_stops N 5 n2 n7 (by decide) (w2.heap.size + 1) W3 bN) kpB_t (kpB_b (by omega)) (Below.refl _ _) (fun _ => rfl)
    (fun (pre : List (Bx N)) W => RestSt w W N (.slice A ls.length c) (.slice B ms.length d) (.slice C ph.length cc) ∧ Boxed W w2.heap.size 3 (.int .i64 (mxP (restE ls ms ph N) pre)) ∧ Boxed W (w2.heap.size + 1) 3 (.int .i64 (N : Int)))
    (fun _ _ _ => False)
    (OwnFrom.and (RestSt.own (by omega)) (OwnFrom.and (Own.from (boxed_own _ _ (fun pre => .int .i64 (mxP (restE ls ms ph N) pre))) _) (Own.from (boxed_own _ _ _) _)))
    (fun _ _ _ _ _ hs _ _ => hs)
    ⟨st3, bR, bN⟩
    _ ?assign ?body ?done ?stop
  case assign =>
    intro l x W K hK
    unfold encB
    gi_wp2
    exact hK
  case body =>
    clear st3 bR bN
    rintro l pre x W ⟨hst, hR, xN⟩ hlt
    obtain ⟨x12, x2N, xix⟩ := bs_at n7 x.2
    have x1N : b1 N x.1 < N := by omega
    have hx : x.1 < nb N := x.2
    have HGK := Lib.hid (show gk N (b1 N x.1) (b2 N x.1) = x.1 by rw [gk_lt x12, xix])
    have HC := Lib.hid (fun w => by have := baseAt_any N (b1 N x.1) (b2 N x.1) w n7 x1N x2N (show b1 N x.1 ≠ b2 N x.1 by omega); rwa [HGK.out] at this)
    obtain ⟨ql, ol, rfl, hql, _, a1⟩ := (hls.below hst.b (Nat.le_refl _)).pair_at (k := x.1) (by rw [LL.out]; exact hx)
    obtain ⟨qm, om, rfl, hqm, _, a2⟩ := (hms.below hst.b (Nat.le_refl _)).pair_at (k := x.1) (by rw [LM.out]; exact hx)
    obtain ⟨qa, oa, rfl, hqa, a3⟩ := (hph.below hst.b (Nat.le_refl _)).int_at (k := b1 N x.1) (by rw [LP.out]; exact x1N)
    obtain ⟨qa', oa', ee, _, a4⟩ := (hph.below hst.b (Nat.le_refl _)).int_at (k := b2 N x.1) (by rw [LP.out]; exact x2N)
    injection ee with ee
    injection ee with ee1 ee2
    subst ee1 ee2
    have p1 := allP_at hp (j := b1 N x.1) (by rw [LP.out]; exact x1N)
    have p2 := allP_at hp (j := b2 N x.1) (by rw [LP.out]; exact x2N)
    obtain ⟨_, _, u1, u2⟩ := vis_at v1 hx
    obtain ⟨_, _, u3, u4⟩ := vis_at v2 hx
    have i1 : ((x.1 : Nat) : Int) < (ls.length : Int) := by rw [LL.out]; omega
    have i2 : ((x.1 : Nat) : Int) < (ms.length : Int) := by rw [LM.out]; omega
    have i3 : ((b1 N x.1 : Nat) : Int) < (ph.length : Int) := by rw [LP.out]; omega
    have i4 : ((b2 N x.1 : Nat) : Int) < (ph.length : Int) := by rw [LP.out]; omega
    obtain ⟨ev, hev⟩ : ∃ ev : Int, ev = restE ls ms ph N x.1 := ⟨_, rfl⟩
    obtain ⟨mv, hmv⟩ : ∃ mv : Int, mv = mxP (restE ls ms ph N) pre := ⟨_, rfl⟩
    have mb := mxP_bd (f := restE ls ms ph N) (fun k => (near_bd _ _).2) pre
    have eb : 0 ≤ ev ∧ ev ≤ 180 := by rw [hev]; exact near_bd _ _
    have HV := Lib.hid (show mxP (restE ls ms ph N) (pre ++ [x]) = max mv ev by rw [mxP_snoc, ← hev, ← hmv])
    rw [← hmv] at hR mb
    unfold restE at hev
    generalize g2 ls x.1 = pl at *
    generalize g2 ms x.1 = pm at *
    generalize gi ph (b1 N x.1) = y1 at *
    generalize gi ph (b2 N x.1) = y2 at *
    have HP1 := Lib.hid (still_phase (pm + y2 - y1))
    have HP2 := Lib.hid (show ∀ w : World, Calls Try.prog 59 #[.int .i64 pl, .int .i64 ((pm + y2 - y1) % 360)] w fun e w' => e = .returned (.int .i64 ev) ∧ w' = w by rw [hev]; exact still_near _ _ (by omega) (by omega) (by omega) (by omega))
    clear hev hmv
    have cN := hst.n.cell
    have cL := hst.l.cell
    have cM := hst.m.cell
    have cP := hst.p.cell
    have cR := hR.cell
    have fR := hR.frozen
    have hz2 : w.heap.size + 3 < w2.heap.size := by omega
    have fin : ∀ v : Int, v = max mv ev → KeepsFrom W3.heap.size W (W.drew.setCell ⟨w2.heap.size, 0, none⟩ (.int .i64 v)) ∧ KpB (w2.heap.size + 1) W (W.drew.setCell ⟨w2.heap.size, 0, none⟩ (.int .i64 v)) ∧ RestSt w (W.drew.setCell ⟨w2.heap.size, 0, none⟩ (.int .i64 v)) N (.slice (some ⟨ql, ol, none⟩) ls.length c) (.slice (some ⟨qm, om, none⟩) ms.length d) (.slice (some ⟨qa, oa, none⟩) ph.length cc) ∧ Boxed (W.drew.setCell ⟨w2.heap.size, 0, none⟩ (.int .i64 v)) w2.heap.size 3 (.int .i64 (mxP (restE ls ms ph N) (pre ++ [x]))) ∧ Boxed (W.drew.setCell ⟨w2.heap.size, 0, none⟩ (.int .i64 v)) (w2.heap.size + 1) 3 (.int .i64 (N : Int)) := fun v hv => by
      have bd : Below W.heap.size W W.drew := (Below.refl _ _).drew
      have vN : Boxed (W.drew.setCell ⟨w2.heap.size, 0, none⟩ (.int .i64 v)) (w2.heap.size + 1) 3 (.int .i64 (N : Int)) := (box_bel xN bd).other (by omega) _
      refine ⟨((keeps_belR bd).trans (KeepsOthers.setCell W.drew _ _)).from _, Eq.trans vN xN.symm, (hst.keep bd).set hz2 _, ?_, vN⟩
      rw [HV.out, ← hv]
      exact (box_bel hR bd).set _
    have FIN := Lib.hid fin
    clear fin hst hR xN
    gi_wp2_with fail
    refine ⟨trivial, (callsIn_wide.2 (HC.out _)).mono ?_⟩
    rintro e w' ⟨rfl, rfl⟩
    have w1' : IntKind.i64.wrap (pm + y2) = pm + y2 := IntWalk.i64_in _ (by omega)
    have w2' : IntKind.i64.wrap (pm + y2 - y1) = pm + y2 - y1 := IntWalk.i64_in _ (by clear w1'; omega)
    rcases Int.lt_trichotomy mv ev with h | h | h
    · have h2 : ¬ ev ≤ mv := by omega
      have h3 := Lib.hid (show ev = max mv ev by omega)
      gi_wp2_with fail
      refine round_still_tail 24 (by kernel_rfl) (by kernel_rfl) (by rintro ⟨_, _, x⟩; exact x) (by kernel_rfl) ?_
      simp only [List.take_succ_cons, List.take_zero, List.drop_succ_cons, List.drop_zero]
      repeat (first | still_step | (still_call (HP1.out _)) | (still_call (HP2.out _)))
      refine wpStill_nil ?_
      go_wp2
      gi_wp2
      exact FIN.out _ h3.out
    · subst h
      have h3 := Lib.hid (show mv = max mv mv by omega)
      gi_wp2_with fail
      refine round_still_tail 24 (by kernel_rfl) (by kernel_rfl) (by rintro ⟨_, _, x⟩; exact x) (by kernel_rfl) ?_
      simp only [List.take_succ_cons, List.take_zero, List.drop_succ_cons, List.drop_zero]
      repeat (first | still_step | (still_call (HP1.out _)) | (still_call (HP2.out _)))
      refine wpStill_nil ?_
      go_wp2
      gi_wp2
      exact FIN.out _ h3.out
    · have h2 : ¬ mv ≤ ev := by omega
      have h3 := Lib.hid (show mv = max mv ev by omega)
      gi_wp2_with fail
      refine round_still_tail 24 (by kernel_rfl) (by kernel_rfl) (by rintro ⟨_, _, x⟩; exact x) (by kernel_rfl) ?_
      simp only [List.take_succ_cons, List.take_zero, List.drop_succ_cons, List.drop_zero]
      repeat (first | still_step | (still_call (HP1.out _)) | (still_call (HP2.out _)))
      refine wpStill_nil ?_
      go_wp2
      gi_wp2
      exact FIN.out _ h3.out
  case done =>
    rintro D ys W hD hall ⟨hst, hR, xN⟩ hK
    have HM := Lib.hid (mxP_all (f := restE ls ms ph N) hall)
    have cR := hR.cell
    have hB := hst.b
    clear st3 bR bN hst hR xN
    gi_wp2
    refine ⟨by simp, .inl ⟨_, _, rfl, run_takeDeferred hK, ⟨_, results_tmp rfl _ _ _, ?_⟩⟩⟩
    exact ⟨by rw [← HM.out]; rfl, hB.trans (belowK_b (w := w) (Nat.le_refl _) _ D _ _ (by omega) hK rfl rfl)⟩
  case stop =>
    rintro D c pre W _ _ h _
    exact h.elim
end Go.Proofs.Ytpdekpeknnlfmaa
