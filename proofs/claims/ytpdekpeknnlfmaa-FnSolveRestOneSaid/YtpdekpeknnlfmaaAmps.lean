/-
  Contract of the program's ampsFrom.
-/
import Derived.Test.YtpdekpeknnlfmaaCampA
import Derived.Test.YtpdekpeknnlfmaaSolveP
import Derived.Test.YtpdekpeknnlfmaaRound2
import Derived.Test.YtpdekpeknnlfmaaRemove
import Derived.Sort.CutIn
import Derived.BigQuiet
import Derived.Deep.RegionLaw
import Derived.BigRegion
namespace Go.Proofs.Ytpdekpeknnlfmaa
set_option linter.unusedVariables false
open Go.RowKit Go.Shelf
attribute [local go_sem] Oper.semAt_some

theorem load_ints {W : World} {b : Nat} {v : Value} (h : Boxed W b 26 v) : (loadVar 26 ⟨b, 0, none⟩).run Try.prog W = .ok v W := by
  have hc := h.cell
  unfold loadVar
  go_simp
theorem quiet_of_w {P : Program} {f : FuncId} {args : Array Value} {v : Value} (h : ∀ w, Calls P f args w fun e w' => e = .returned v ∧ w = w') : ∀ (w : World) {n : Nat}, Calls P f args (w.drewN n) fun e w'' => e = .returned v ∧ ∃ m, w'' = w.drewN m :=
  fun w n => (h (w.drewN n)).mono fun _ _ ⟨he, hw⟩ => ⟨he, n, hw.symm⟩
theorem keeps_bel {W W' : World} (h : Below W.heap.size W W') : KeepsOthers W W' := ⟨h.size, fun k o ho _ => (h.block k (Array.getElem?_eq_some_iff.1 ho).1).trans ho⟩
theorem ampV_small {ls ms : List (Int × Int)} {f N j : Nat} (f2 : f < 100) (vl : visB (N : Int) ls = true) (vm : visB (N : Int) ms = true) (n7 : N ≤ 7) (hdv : ∀ j, 0 < j → j < N → dv ls ms f j = true) (hj : j < N) : 0 ≤ gi (ampL ls ms f N) j ∧ gi (ampL ls ms f N) j ≤ 99 := by
  rw [gi_ampL hj]
  unfold ampV
  by_cases e : j = 0
  · rw [if_pos e]; omega
  · rw [if_neg e]
    have h := hdv j (by omega) hj
    have hx := (idx_at n7 (show 0 < j by omega) hj).1
    rw [idx_first n7 (show 0 < j by omega) hj] at hx
    have v1 := (vis_at vl hx).1
    have v2 := (vis_at vm hx).1
    simp only [dv, Bool.and_eq_true, Bool.not_eq_true', decide_eq_false_iff_not] at h
    exact ⟨Int.ediv_nonneg (by omega) (Int.mul_nonneg (by omega) (by omega)), by omega⟩
/-- numbers in new memory and a bool -/
def RetA (w : World) (r : List Int × Bool) (e : Ending) (w' : World) : Prop :=
  ∃ A c, e = .returned (.tuple #[.slice A r.1.length c, .bool r.2]) ∧ r.1.length ≤ c ∧ Ow w' 3 w.heap.size w'.heap.size A (ints r.1) ∧ Below w.heap.size w w'
theorem wp_calm {P : Program} {c : Code} {Q : Exit → Act → World → Prop} {a : Act} {w : World} (h : c.wp P (Exit.then (Q .normal) (fun _ _ _ => False)) a w) : c.wp P Q a w :=
  Code.wp_mono (fun e a w h => by cases e <;> first | exact h | exact h.elim) h
/-- what the program's ampsFrom returns -/
def ampsF (N : Nat) (ls ms : List (Int × Int)) (f : Nat) : List Int × Bool := if okF ls ms N f = true then (ampL ls ms f N, true) else ([], false)
/-- all baselines that have come fit -/
def FtP {N : Nat} (ls ms : List (Int × Int)) (xs : List Int) (pre : List (Bx N)) : Prop := ∀ x ∈ pre, g1 ls x.1 = g1 ms x.1 * gi xs (b1 N x.1) * gi xs (b2 N x.1)
theorem FtP.nil {N : Nat} (ls ms : List (Int × Int)) (xs : List Int) : FtP ls ms xs ([] : List (Bx N)) := fun x hx => by cases hx
theorem FtP.snoc {N : Nat} {ls ms : List (Int × Int)} {xs : List Int} {pre : List (Bx N)} (h : FtP ls ms xs pre) (x : Bx N) (e : g1 ls x.1 = g1 ms x.1 * gi xs (b1 N x.1) * gi xs (b2 N x.1)) : FtP ls ms xs (pre ++ [x]) := fun y hy => by
  rw [List.mem_append, List.mem_singleton] at hy
  rcases hy with hy | rfl
  · exact h y hy
  · exact e
theorem FtP.bad_snoc {N : Nat} {ls ms : List (Int × Int)} {xs : List Int} {pre : List (Bx N)} (x : Bx N) (e : g1 ls x.1 ≠ g1 ms x.1 * gi xs (b1 N x.1) * gi xs (b2 N x.1)) : ¬ FtP ls ms xs (pre ++ [x]) := fun h => e (h x (by simp))
theorem all_has' {N : Nat} {xs : List (Bx N)} (h : AllB xs) {k : Nat} (hk : k < nb N) : ∃ y ∈ xs, y.1 = k := by
  have : k ∈ xs.map (·.1) := by rw [show xs.map (·.1) = List.range xs.length from h.1, h.2]; simpa using hk
  simpa using this
theorem FtP.all {N : Nat} {ls ms : List (Int × Int)} {xs : List Int} {ys : List (Bx N)} (h : AllB ys) (hf : FtP ls ms xs ys) : ∀ p, p < nb N → g1 ls p = g1 ms p * gi xs (b1 N p) * gi xs (b2 N p) := fun p hp => by
  obtain ⟨y, hy, rfl⟩ := all_has' h hp
  exact hf y hy
theorem FtP.bad {N : Nat} {ls ms : List (Int × Int)} {xs : List Int} {pre : List (Bx N)} (hf : ¬ FtP ls ms xs pre) : fits ls ms xs N = false := by
  rw [Bool.eq_false_iff]
  intro e
  exact hf fun x _ => fits_iff.1 e x.1 x.2
theorem ampsF_yes {N f : Nat} {ls ms : List (Int × Int)} (h : okF ls ms N f = true) : ampsF N ls ms f = (ampL ls ms f N, true) := by simp [ampsF, h]
theorem ampsF_no {N f : Nat} {ls ms : List (Int × Int)} (h : okF ls ms N f = false) : ampsF N ls ms f = ([], false) := by simp [ampsF, h]

/-- ampsFrom in the making: its boxes, and the amplitudes that it has -/
structure AmSt (w W : World) (N : Nat) (L M v : Value) (k : Nat) (xs : List Int) : Prop where
  n : Boxed W w.heap.size 3 (.int .i64 (N : Int))
  l : Boxed W (w.heap.size + 1) 23 L
  m : Boxed W (w.heap.size + 2) 23 M
  p : ∃ p, Boxed W (w.heap.size + 3) 26 p
  q : ∃ q, Boxed W (w.heap.size + 4) 4 q
  a : Boxed W (w.heap.size + 6) 26 v
  r : W.ownsRow (w.heap.size + 5) 3 1 v k (ints xs)
  b : Below w.heap.size w W
theorem AmSt.keep {w W W' : World} {N : Nat} {L M v : Value} {k : Nat} {xs : List Int} (h : AmSt w W N L M v k xs) (hb : Below W.heap.size W W') : AmSt w W' N L M v k xs :=
  ⟨box_bel h.n hb, box_bel h.l hb, box_bel h.m hb, h.p.imp fun _ x => box_bel x hb, h.q.imp fun _ x => box_bel x hb, box_bel h.a hb, own_same h.r (fun q hq => hb.block q (h.r.lt q hq).2), h.b.trans (hb.mono h.b.size)⟩
theorem AmSt.app {w W w1 : World} {N : Nat} {L M v v' : Value} {k : Nat} {xs : List Int} {z : Int} {o : Obj} (h : AmSt w W N L M v k xs)
    (hown : w1.ownsRow (w.heap.size + 5) 3 1 v' (k + 1) (ints xs ++ [.int .i64 z])) (hg : (W.alloc o).grownBy w1 v.ownBlock) :
    Boxed w1 (w.heap.size + 6) 26 v ∧ AmSt w (w1.setCell ⟨w.heap.size + 6, 0, none⟩ v') N L M v' (k + 1) (xs ++ [z]) := by
  have hlt := h.a.lt
  obtain ⟨hv1, hv2, hr2, hk2, hb2⟩ := h.a.appended (by decide) h.r (by omega) (by omega) hown hg
  have kp : ∀ {b : Nat} {t : TypeId} {u : Value}, b < w.heap.size + 5 → Boxed W b t u → Boxed (w1.setCell ⟨w.heap.size + 6, 0, none⟩ v') b t u := fun hlt hx => (hb2.block _ hlt).trans hx
  exact ⟨hv1, kp (by omega) h.n, kp (by omega) h.l, kp (by omega) h.m, h.p.imp fun _ x => kp (by omega) x, h.q.imp fun _ x => kp (by omega) x, hv2, by rw [ints_append]; exact hr2, h.b.trans (hb2.mono (by omega))⟩
theorem AmSt.own {β : Type} {B : Nat} {w : World} {N : Nat} {L M v : Value} {k : Nat} {xs : List Int} (hB : w.heap.size ≤ B) : OwnFrom B (fun (_ : β) W => AmSt w W N L M v k xs) := fun s X Y row h hg hr => by
  have bx : ∀ {b : Nat} {t : TypeId} {u : Value}, Boxed X b t u → Boxed Y b t u := fun {b t u} hx => boxed_own b t (fun (_ : β) => u) s X Y row hx hg (fun r e => (hr r e).2)
  refine ⟨bx h.n, bx h.l, bx h.m, h.p.imp fun _ x => bx x, h.q.imp fun _ x => bx x, bx h.a, h.r.kept hg ?_, (show OwnFrom B (fun (_ : β) W => Below w.heap.size w W) from ownFrom_below (Nat.le_refl _) hB) s X Y row h.b hg hr⟩
  rcases h.r.2 with ⟨hv, _⟩ | ⟨g, cap, cur, hv, _, hgb, _⟩
  · exact .inl (by rw [hv]; rfl)
  · refine .inr fun e' => ?_
    obtain ⟨o, ho, hc⟩ := (hr g (by rw [← e', hv]; rfl)).2
    rw [hgb] at ho
    cases ho
    cases hc
/-- two stores into the boxes of the results -/
theorem AmSt.fin {w W : World} {N : Nat} {L M v : Value} {k : Nat} {xs : List Int} (h : AmSt w W N L M v k xs) (x y : Value) :
    (∃ u, W.cell? ⟨w.heap.size + 3, 0, none⟩ = some u) ∧ W.frozen? ⟨w.heap.size + 3, 0, none⟩ = false ∧ (∃ u, W.cell? ⟨w.heap.size + 4, 0, none⟩ = some u) ∧ W.frozen? ⟨w.heap.size + 4, 0, none⟩ = false ∧
    Boxed ((W.setCell ⟨w.heap.size + 3, 0, none⟩ x).setCell ⟨w.heap.size + 4, 0, none⟩ y) (w.heap.size + 3) 26 x ∧ Boxed ((W.setCell ⟨w.heap.size + 3, 0, none⟩ x).setCell ⟨w.heap.size + 4, 0, none⟩ y) (w.heap.size + 4) 4 y ∧
    ((W.setCell ⟨w.heap.size + 3, 0, none⟩ x).setCell ⟨w.heap.size + 4, 0, none⟩ y).ownsRow (w.heap.size + 5) 3 1 v k (ints xs) ∧ Below w.heap.size w ((W.setCell ⟨w.heap.size + 3, 0, none⟩ x).setCell ⟨w.heap.size + 4, 0, none⟩ y) ∧ KeepsOthers W ((W.setCell ⟨w.heap.size + 3, 0, none⟩ x).setCell ⟨w.heap.size + 4, 0, none⟩ y) := by
  obtain ⟨u, hu⟩ := h.p
  obtain ⟨u', hu'⟩ := h.q
  refine ⟨⟨u, hu.cell⟩, hu.frozen, ⟨u', hu'.cell⟩, hu'.frozen, (hu.set x).other (by omega) y, (hu'.other (by omega) x).set y, ?_, (h.b.setCell (p := ⟨w.heap.size + 3, 0, none⟩) (by simp) x).setCell (p := ⟨w.heap.size + 4, 0, none⟩) (by simp) y, (KeepsOthers.setCell W _ x).trans (KeepsOthers.setCell _ _ y)⟩
  refine own_same h.r (fun q hq => ?_)
  have := (h.r.lt q hq).1
  rw [Below.heap_setCell _ _ _ q (by show q ≠ w.heap.size + 4; omega), Below.heap_setCell _ _ _ q (by show q ≠ w.heap.size + 3; omega)]
theorem dv_no1 {ls ms : List (Int × Int)} {f j : Nat} (h : g1 ls (j - 1) % (g1 ms (j - 1) * (f : Int)) ≠ 0) : dv ls ms f j = false := by simp [dv, h]
theorem dv_no2 {ls ms : List (Int × Int)} {f j : Nat} (h : 99 < g1 ls (j - 1) / (g1 ms (j - 1) * (f : Int))) : dv ls ms f j = false := by simp [dv, h]
theorem dv_mk {ls ms : List (Int × Int)} {f j : Nat} (h1 : g1 ls (j - 1) % (g1 ms (j - 1) * (f : Int)) = 0) (h2 : ¬ 99 < g1 ls (j - 1) / (g1 ms (j - 1) * (f : Int))) : dv ls ms f j = true := by simp [dv, h1]; omega
theorem RetA.none_ {w w' : World} (A : Option Addr) (c : Nat) (h : Below w.heap.size w w') : RetA w ([], false) (.returned (.tuple #[.slice A 0 c, .bool false])) w' := ⟨A, c, rfl, Nat.zero_le _, Ow.none_, h⟩

set_option maxRecDepth 100000 in
set_option maxHeartbeats 2000000 in
theorem ampsFrom_yes (N f : Nat) (A B : Option Addr) (c d : Nat) (ls ms : List (Int × Int)) (w : World) (hls : Rd w A (pairs ls)) (hms : Rd w B (pairs ms)) (vl : visB (N : Int) ls = true) (vm : visB (N : Int) ms = true) (f1 : 1 ≤ f) (f2 : f < 100) {m m' : Nat} (hm : ls.length = m) (hm' : ms.length = m') :
    Calls Try.prog 47 #[.int .i64 (N : Int), .slice A m c, .slice B m' d, .int .i64 (f : Int)] w (RetA w (ampsF N ls ms f)) := by
  subst hm hm'
  obtain ⟨n2, n7⟩ := vis_N vl
  have hnb := nb_le n7
  have LL := Lib.hid (visB_len vl)
  have LM := Lib.hid (visB_len vm)
  obtain ⟨i0, hi, hz0, hz1, hz2⟩ := info_parts info_int
  refine (callsIn_wide (n := 6)).1 ?_
  refine callsIn_of_wp_marks Try.func47 rfl trivial ?_ rfl
  simp only [Try.ntmps47, List.size_toArray, List.length_cons, List.length_nil, Nat.reduceAdd, Nat.reduceSub, Array.replicate_succ, Array.replicate_zero, List.push_toArray, List.append_toArray, List.nil_append, List.cons_append]
  obtain ⟨W1, hW1⟩ : ∃ W1 : World, W1 = (((((((w.alloc (.cells #[.int .i64 (N : Int)] 3)).alloc (.cells #[.slice A ls.length c] 23)).alloc (.cells #[.slice B ms.length d] 23)).alloc (.cells #[.slice none 0 0] 26)).alloc (.cells #[.bool false] 4)).alloc (.cells #[.int .i64 (f : Int)] 3)).alloc (.cells #[.slice (some ⟨w.heap.size + 5, 0, none⟩) 1 1] 26)) := ⟨_, rfl⟩
  have st0 : AmSt w W1 N (.slice A ls.length c) (.slice B ms.length d) (.slice (some ⟨w.heap.size + 5, 0, none⟩) 1 1) 1 (ampL ls ms f 1) := by
    rw [hW1, ampL_one]
    refine ⟨(((((((show Boxed (w.alloc (.cells #[.int .i64 (N : Int)] 3)) (w.heap.size) 3 (.int .i64 (N : Int)) by have := Boxed.new w 3 (.int .i64 (N : Int)); simpa using this).alloc (.cells #[.slice A ls.length c] 23)).alloc (.cells #[.slice B ms.length d] 23)).alloc (.cells #[.slice none 0 0] 26)).alloc (.cells #[.bool false] 4)).alloc (.cells #[.int .i64 (f : Int)] 3)).alloc (.cells #[.slice (some ⟨w.heap.size + 5, 0, none⟩) 1 1] 26)), ((((((show Boxed ((w.alloc (.cells #[.int .i64 (N : Int)] 3)).alloc (.cells #[.slice A ls.length c] 23)) (w.heap.size + 1) 23 (.slice A ls.length c) by have := Boxed.new (w.alloc (.cells #[.int .i64 (N : Int)] 3)) 23 (.slice A ls.length c); simpa using this).alloc (.cells #[.slice B ms.length d] 23)).alloc (.cells #[.slice none 0 0] 26)).alloc (.cells #[.bool false] 4)).alloc (.cells #[.int .i64 (f : Int)] 3)).alloc (.cells #[.slice (some ⟨w.heap.size + 5, 0, none⟩) 1 1] 26)), (((((show Boxed (((w.alloc (.cells #[.int .i64 (N : Int)] 3)).alloc (.cells #[.slice A ls.length c] 23)).alloc (.cells #[.slice B ms.length d] 23)) (w.heap.size + 2) 23 (.slice B ms.length d) by have := Boxed.new ((w.alloc (.cells #[.int .i64 (N : Int)] 3)).alloc (.cells #[.slice A ls.length c] 23)) 23 (.slice B ms.length d); simpa using this).alloc (.cells #[.slice none 0 0] 26)).alloc (.cells #[.bool false] 4)).alloc (.cells #[.int .i64 (f : Int)] 3)).alloc (.cells #[.slice (some ⟨w.heap.size + 5, 0, none⟩) 1 1] 26)), ⟨_, ((((show Boxed ((((w.alloc (.cells #[.int .i64 (N : Int)] 3)).alloc (.cells #[.slice A ls.length c] 23)).alloc (.cells #[.slice B ms.length d] 23)).alloc (.cells #[.slice none 0 0] 26)) (w.heap.size + 3) 26 (.slice none 0 0) by have := Boxed.new (((w.alloc (.cells #[.int .i64 (N : Int)] 3)).alloc (.cells #[.slice A ls.length c] 23)).alloc (.cells #[.slice B ms.length d] 23)) 26 (.slice none 0 0); simpa using this).alloc (.cells #[.bool false] 4)).alloc (.cells #[.int .i64 (f : Int)] 3)).alloc (.cells #[.slice (some ⟨w.heap.size + 5, 0, none⟩) 1 1] 26))⟩, ⟨_, (((show Boxed (((((w.alloc (.cells #[.int .i64 (N : Int)] 3)).alloc (.cells #[.slice A ls.length c] 23)).alloc (.cells #[.slice B ms.length d] 23)).alloc (.cells #[.slice none 0 0] 26)).alloc (.cells #[.bool false] 4)) (w.heap.size + 4) 4 (.bool false) by have := Boxed.new ((((w.alloc (.cells #[.int .i64 (N : Int)] 3)).alloc (.cells #[.slice A ls.length c] 23)).alloc (.cells #[.slice B ms.length d] 23)).alloc (.cells #[.slice none 0 0] 26)) 4 (.bool false); simpa using this).alloc (.cells #[.int .i64 (f : Int)] 3)).alloc (.cells #[.slice (some ⟨w.heap.size + 5, 0, none⟩) 1 1] 26))⟩, (show Boxed (((((((w.alloc (.cells #[.int .i64 (N : Int)] 3)).alloc (.cells #[.slice A ls.length c] 23)).alloc (.cells #[.slice B ms.length d] 23)).alloc (.cells #[.slice none 0 0] 26)).alloc (.cells #[.bool false] 4)).alloc (.cells #[.int .i64 (f : Int)] 3)).alloc (.cells #[.slice (some ⟨w.heap.size + 5, 0, none⟩) 1 1] 26)) (w.heap.size + 6) 26 (.slice (some ⟨w.heap.size + 5, 0, none⟩) 1 1) by have := Boxed.new ((((((w.alloc (.cells #[.int .i64 (N : Int)] 3)).alloc (.cells #[.slice A ls.length c] 23)).alloc (.cells #[.slice B ms.length d] 23)).alloc (.cells #[.slice none 0 0] 26)).alloc (.cells #[.bool false] 4)).alloc (.cells #[.int .i64 (f : Int)] 3)) 26 (.slice (some ⟨w.heap.size + 5, 0, none⟩) 1 1); simpa using this), ?_, ((((((((Below.refl w.heap.size w).alloc (Nat.le_refl _) (.cells #[.int .i64 (N : Int)] 3)).alloc (by simp) (.cells #[.slice A ls.length c] 23)).alloc (by simp; omega) (.cells #[.slice B ms.length d] 23)).alloc (by simp; omega) (.cells #[.slice none 0 0] 26)).alloc (by simp; omega) (.cells #[.bool false] 4)).alloc (by simp; omega) (.cells #[.int .i64 (f : Int)] 3)).alloc (by simp; omega) (.cells #[.slice (some ⟨w.heap.size + 5, 0, none⟩) 1 1] 26))⟩
    have := World.ownsRow_lit (e := 3) (size := 1) (base := w.heap.size + 5) (((((w.alloc (.cells #[.int .i64 (N : Int)] 3)).alloc (.cells #[.slice A ls.length c] 23)).alloc (.cells #[.slice B ms.length d] 23)).alloc (.cells #[.slice none 0 0] 26)).alloc (.cells #[.bool false] 4)) #[.int .i64 (f : Int)] 1 (by simp) (by simp [maxLen]) rfl
    exact (show (((((((w.alloc (.cells #[.int .i64 (N : Int)] 3)).alloc (.cells #[.slice A ls.length c] 23)).alloc (.cells #[.slice B ms.length d] 23)).alloc (.cells #[.slice none 0 0] 26)).alloc (.cells #[.bool false] 4)).alloc (.cells #[.int .i64 (f : Int)] 3))).ownsRow (w.heap.size + 5) 3 1 (.slice (some ⟨w.heap.size + 5, 0, none⟩) 1 1) 1 (ints [(f : Int)]) by simpa [ints] using this).alloc _
  have ST0 := Lib.hid st0
  clear st0
  gi_wp2
  simp only [Nat.add_assoc, Nat.reduceAdd] at hW1 ⊢
  rw [← hW1]
  clear hW1
  gi_loopw [11] (fun i wr => ∃ (k : Nat) (v : Value), 1 ≤ k ∧ k ≤ N ∧ i = .int .i64 k ∧ (∀ j, 0 < j → j < k → dv ls ms f j = true) ∧ AmSt w wr N (.slice A ls.length c) (.slice B ms.length d) v k (ampL ls ms f k)) (fun i _ => N - (intOf i).toNat)
  case atStart => exact ⟨1, _, Nat.le_refl _, by omega, rfl, fun j h0 h1 => absurd h1 (by omega), ST0.out⟩
  case round =>
    clear ST0
    obtain ⟨k, v, hk1, hk, rfl, hdv, hst⟩ := hrel
    obtain ⟨W, rfl⟩ : ∃ wq : World, wq = wr := ⟨_, rfl⟩
    have cN := hst.n.cell
    by_cases hlt : k < N
    · have hx := (idx_at n7 (show 0 < k by omega) hlt).1
      have hix := idx_first n7 (show 0 < k by omega) hlt
      rw [hix] at hx
      have hdv' := Lib.hid hdv
      clear hdv
      obtain ⟨ql, ol, rfl, hql, a1, _⟩ := (hls.below hst.b (Nat.le_refl _)).pair_at (k := k - 1) (by rw [LL.out]; exact hx)
      obtain ⟨qm, om, rfl, hqm, a2, _⟩ := (hms.below hst.b (Nat.le_refl _)).pair_at (k := k - 1) (by rw [LM.out]; exact hx)
      have v1 := vis_at vl hx
      have v2 := vis_at vm hx
      obtain ⟨v11, v12, _⟩ := v1
      obtain ⟨v21, v22, _⟩ := v2
      have i1 : ((k - 1 : Nat) : Int) < (ls.length : Int) := by rw [LL.out]; omega
      have i2 : ((k - 1 : Nat) : Int) < (ms.length : Int) := by rw [LM.out]; omega
      have HQ := Lib.hid (quiet_of_w (v := .int .i64 ((k - 1 : Nat) : Int)) (fun w => by have := baseAt_any N 0 k w n7 (by omega) hlt (by omega); rwa [gk_lt (show 0 < k by omega), hix, Int.natCast_zero] at this))
      have cL := hst.l.cell
      have cM := hst.m.cell
      have i3 : (k : Int) < (N : Int) := by omega
      obtain ⟨D, hD⟩ : ∃ D : Int, D = g1 ms (k - 1) * (f : Int) := ⟨_, rfl⟩
      have hD1 : 1 ≤ D := by rw [hD]; exact mul_pos2 v21 (by omega)
      have hD2 : D ≤ 100000000 := by
        rw [hD]
        have := Int.mul_le_mul v22 (show (f : Int) ≤ 99 by omega) (by omega) (by omega)
        omega
      have HD := Lib.hid hD
      have HD2 := Lib.hid hD.symm
      obtain ⟨a, ha⟩ : ∃ a : Int, a = g1 ls (k - 1) := ⟨_, rfl⟩
      have HA := Lib.hid ha
      rw [← ha] at a1 v11 v12
      clear hD ha hix
      have e1 : IntKind.i64.wrap (g1 ms (k - 1) * (f : Int)) = D := by rw [HD2.out]; exact IntWalk.i64_in _ (by omega)
      have e2 : g1 ms (k - 1) * (f : Int) = D := HD2.out
      gi_wp2_with fail
      refine wpIn_wide.2 ?_
      go_quiet ((go_at_call 53; exact HQ.out _))
      obtain ⟨Wd, hWd⟩ : ∃ W' : World, W' = W.drewN nq := ⟨_, rfl⟩
      have hst2 : AmSt w Wd N (.slice (some ⟨ql, ol, none⟩) ls.length c) (.slice (some ⟨qm, om, none⟩) ms.length d) v k (ampL ls ms f k) := by rw [hWd]; exact hst.keep (below_drewN (Below.refl _ _) _)
      rw [← hWd]
      clear hWd hst HQ e1 e2 a1 a2 cL cM cN hql hqm
      have hst := hst2
      clear hst2
      have m0 : 0 ≤ a % D := Int.emod_nonneg _ (by omega)
      have m1 : a % D < D := Int.emod_lt_of_pos _ (by omega)
      have q0 : 0 ≤ a / D := Int.ediv_nonneg (by omega) (by omega)
      have q1 : a / D ≤ a := Int.ediv_le_self _ (by omega)
      have z1 : (D == 0) = false := by simp; omega
      by_cases hd0 : a % D = 0
      · have d0 : (a % D != 0) = false := by simp [hd0]
        by_cases hd1 : 99 < a / D
        · have d1 : decide (99 < a / D) = true := by simpa using hd1
          have HD0 := Lib.hid hd0
          clear hd0
          obtain ⟨⟨uP, cP⟩, fP, ⟨uQ, cQ⟩, fQ, S3, S4, _, SB, _⟩ := hst.fin (.slice none 0 0) (.bool false)
          have X := Lib.hid (And.intro S3 (And.intro S4 SB))
          have HF := Lib.hid (ampsF_no (dvAll_no (by omega) hlt (dv_no2 (by rw [← HD.out, ← HA.out]; exact hd1))))
          clear S3 S4 SB hst
          gi_wp2
          refine ⟨_, results_cell2 rfl _ _ _ _ _ _ rfl rfl (load_ints X.out.1) (load_bool X.out.2.1), ?_⟩
          rw [HF.out]
          exact RetA.none_ _ _ X.out.2.2
        · have d1 : decide (99 < a / D) = false := by simpa using hd1
          have HDV := Lib.hid (show ∀ j, 0 < j → j < k + 1 → dv ls ms f j = true from fun j h0 hj => by
            by_cases e : j = k
            · rw [e]; exact dv_mk (by rw [← HD.out, ← HA.out]; exact hd0) (by rw [← HD.out, ← HA.out]; exact hd1)
            · exact hdv'.out j h0 (by omega))
          have HV := Lib.hid (show ampL ls ms f (k + 1) = ampL ls ms f k ++ [a / D] by rw [ampL_succ]; unfold ampV; rw [if_neg (by omega), ← HD.out, ← HA.out])
          have cA := hst.a.cell
          have fA := hst.a.frozen
          have HST := Lib.hid hst
          have m1' := Lib.hid (show k + 1 ≤ maxLen by simp [maxLen]; omega)
          have m2' := Lib.hid (show (k + 1) * 8 ≤ 140737488355328 by omega)
          have m3' := Lib.hid (show w.heap.size + 5 ≤ (Wd.alloc (.cells #[.int .i64 (a / D)] 3)).heap.size by have := hst.a.lt; simp; omega)
          clear hst hd0 hdv'
          have cA0 : (Wd.alloc (.cells #[.int .i64 (a / D)] 3)).cell? ⟨w.heap.size + 6, 0, none⟩ = some v := (HST.out.a.alloc _).cell
          gi_wp2_with fail
          refine wpIn_wide.2 ?_
          obtain ⟨_, qq1, qq2⟩ := quo_num (t := a) (g := D) (by omega) (by omega) hD1
          have z2 : ¬ D = 0 := by omega
          refine wp_calm ?_
          go_region_law ((refine step_append_lies _ rfl (.tmp 50) (.tmp 54) 26 rfl (w.heap.size + 5) 3 i0 (.int .i64 0) 1 8 Try.underlying26 hi hz0 hz1 hz2 rfl (by decide) _ k (ints (ampL ls ms f k)) (by simp [Act.eval]) (own_da HST.out.r _) ⟨Wd.heap.size, 0, none⟩ 1 1 [.int .i64 (a / D)] (by simp [Act.eval]) rfl (news_da _ _ _) (one_int _) (by decide) m1'.out m2'.out m3'.out _ rfl ?_; intro g cap w1 hown1 hgrow hat hlt1; obtain ⟨hv1, hst3⟩ := HST.out.app hown1 (undrew hgrow); have HST3 := Lib.hid hst3; have cA1 := hv1.cell; have fA1 := hv1.frozen; clear hst3 hown1 hgrow hat hlt1 cA fA))
          all_goals
            clear qq1 qq2 z2
            simp only [Exit.then]
            gi_wp2
            go_roundw
            case rel => exact ⟨k + 1, _, by omega, by omega, by go_num, HDV.out, by rw [HV.out]; exact HST3.out⟩
            case measure => simp [intOf]; omega
      · have d0 : (a % D != 0) = true := by simp [hd0]
        obtain ⟨⟨uP, cP⟩, fP, ⟨uQ, cQ⟩, fQ, S3, S4, _, SB, _⟩ := hst.fin (.slice none 0 0) (.bool false)
        have X := Lib.hid (And.intro S3 (And.intro S4 SB))
        have HF := Lib.hid (ampsF_no (dvAll_no (by omega) hlt (dv_no1 (by rw [← HD.out, ← HA.out]; exact hd0))))
        clear S3 S4 SB hst
        clear hd0
        gi_wp2
        refine ⟨_, results_cell2 rfl _ _ _ _ _ _ rfl rfl (load_ints X.out.1) (load_bool X.out.2.1), ?_⟩
        rw [HF.out]
        exact RetA.none_ _ _ X.out.2.2
    · obtain rfl : k = N := by omega
      obtain ⟨N, rfl⟩ : ∃ N : Nat, N = k := ⟨_, rfl⟩
      have d1 : decide ((N : Int) < (N : Int)) = false := by simp
      have HDV := Lib.hid hdv
      clear hdv
      gi_wp2_with (refine ⟨trivial, ?_⟩; gi_at_call 54; refine (callsIn_wide.2 (bases_any _ _)).mono ?_; rintro e w' ⟨rfl, rfl⟩)
      obtain ⟨W3, hW3⟩ : ∃ W3 : World, W3 = W.alloc (.cells #[.int .i64 (N : Int)] 3) := ⟨_, rfl⟩
      rw [← hW3]
      have bN : Boxed W3 W.heap.size 3 (.int .i64 (N : Int)) := by rw [hW3]; exact Boxed.new W _ _
      have b3 : Below W.heap.size W W3 := by rw [hW3]; exact (Below.refl _ _).alloc (Nat.le_refl _) _
      have s3 : W.heap.size + 1 ≤ W3.heap.size := by rw [hW3]; simp
      have st3 := hst.keep b3
      have hz := hst.a.lt
      clear hW3 b3 hst cN d1 hlt
      refine' wpIn_rangeFunc_ownG rfl (by decide) (gf := 80) (lb := #[.pointer (some ⟨W.heap.size, 0, none⟩)]) rfl trivial (enters_of Try.func80 (by kernel_rfl) rfl)
        (bases_stops N 5 n2 n7 (by decide) W.heap.size W3 bN) kpB_t (kpB_b (by omega)) (Below.refl _ _) (fun _ => rfl)
        (fun (pre : List (Bx N)) W' => AmSt w W' N (.slice A ls.length c) (.slice B ms.length d) v N (ampL ls ms f N) ∧ Boxed W' W.heap.size 3 (.int .i64 (N : Int)) ∧ FtP ls ms (ampL ls ms f N) pre)
        (fun c pre W' => (c = .ret ∧ ¬ FtP ls ms (ampL ls ms f N) pre) ∧ Boxed W' (w.heap.size + 3) 26 (.slice none 0 0) ∧ Boxed W' (w.heap.size + 4) 4 (.bool false) ∧ Below w.heap.size w W')
        (OwnFrom.and (AmSt.own (by omega)) (OwnFrom.and (Own.from (boxed_own _ _ _) _) (ownFrom_pure _ (fun pre => FtP ls ms (ampL ls ms f N) pre))))
        (fun c => OwnFrom.and (ownFrom_pure _ (fun pre => c = .ret ∧ ¬ FtP ls ms (ampL ls ms f N) pre)) (OwnFrom.and (Own.from (boxed_own _ _ _) _) (OwnFrom.and (Own.from (boxed_own _ _ _) _) (ownFrom_below (Nat.le_refl _) (by omega)))))
        ⟨st3, bN, FtP.nil _ _ _⟩
        _ ?assign ?body ?done ?stop
      case assign =>
        intro l x W K hK
        unfold encB
        gi_wp2
        exact hK
      case body =>
        clear st3 bN
        rintro l pre x Wp ⟨hst, xN, hft⟩ hlt
        obtain ⟨x12, x2N, xix⟩ := bs_at n7 x.2
        have x1N : b1 N x.1 < N := by omega
        have HGK := Lib.hid (show gk N (b1 N x.1) (b2 N x.1) = x.1 by rw [gk_lt x12, xix])
        have HC := Lib.hid (fun w => by have := baseAt_any N (b1 N x.1) (b2 N x.1) w n7 x1N x2N (show b1 N x.1 ≠ b2 N x.1 by omega); rwa [HGK.out] at this)
        obtain ⟨ql, ol, rfl, hql, a1, _⟩ := (hls.below hst.b (Nat.le_refl _)).pair_at (k := x.1) (by rw [LL.out]; exact x.2)
        obtain ⟨qm, om, rfl, hqm, a2, _⟩ := (hms.below hst.b (Nat.le_refl _)).pair_at (k := x.1) (by rw [LM.out]; exact x.2)
        have hx : x.1 < nb N := x.2
        obtain ⟨v11, v12, _⟩ := vis_at vl hx
        obtain ⟨v21, v22, _⟩ := vis_at vm hx
        have s1 := ampV_small f2 vl vm n7 HDV.out x1N
        have s2 := ampV_small f2 vl vm n7 HDV.out x2N
        obtain ⟨Ao, co, rfl, hco, hcm⟩ := own_shape hst.r
        have hrd : Rd Wp Ao (ints (ampL ls ms f N)) := (Ow.of_own hst.r).rd
        obtain ⟨qa, oa, rfl, hqa, a3⟩ := hrd.int_at (k := b1 N x.1) (by simpa using x1N)
        obtain ⟨qa', oa', ee, _, a4⟩ := hrd.int_at (k := b2 N x.1) (by simpa using x2N)
        injection ee with ee
        injection ee with ee1 ee2
        subst ee1 ee2
        clear hrd
        have i1 : ((x.1 : Nat) : Int) < (ls.length : Int) := by rw [LL.out]; omega
        have i2 : ((x.1 : Nat) : Int) < (ms.length : Int) := by rw [LM.out]; omega
        have i3 : ((b1 N x.1 : Nat) : Int) < (N : Int) := by omega
        have i4 : ((b2 N x.1 : Nat) : Int) < (N : Int) := by omega
        obtain ⟨y1, hy1⟩ : ∃ y : Int, y = gi (ampL ls ms f N) (b1 N x.1) := ⟨_, rfl⟩
        obtain ⟨y2, hy2⟩ : ∃ y : Int, y = gi (ampL ls ms f N) (b2 N x.1) := ⟨_, rfl⟩
        obtain ⟨gl, hgl⟩ : ∃ y : Int, y = g1 ls x.1 := ⟨_, rfl⟩
        obtain ⟨gm, hgm⟩ : ∃ y : Int, y = g1 ms x.1 := ⟨_, rfl⟩
        have HY := Lib.hid (And.intro hy1 (And.intro hy2 (And.intro hgl hgm)))
        rw [← hy1] at s1 a3
        rw [← hy2] at s2 a4
        rw [← hgl] at a1 v11 v12
        rw [← hgm] at a2 v21 v22
        clear hy1 hy2 hgl hgm
        obtain ⟨P1, hP1⟩ : ∃ y : Int, y = gm * y1 := ⟨_, rfl⟩
        obtain ⟨P2, hP2⟩ : ∃ y : Int, y = P1 * y2 := ⟨_, rfl⟩
        have p1 : 0 ≤ P1 := by rw [hP1]; exact Int.mul_nonneg (by omega) s1.1
        have p1' : P1 ≤ 99000000 := by
          rw [hP1]
          have := Int.mul_le_mul v22 s1.2 s1.1 (by omega)
          omega
        have p2 : 0 ≤ P2 := by rw [hP2]; exact Int.mul_nonneg p1 s2.1
        have p2' : P2 ≤ 9801000000 := by
          rw [hP2]
          have := Int.mul_le_mul p1' s2.2 s2.1 (by omega)
          omega
        have HP := Lib.hid (And.intro hP1 hP2)
        have e2 : gm * y1 = P1 := hP1.symm
        have e4 : P1 * y2 = P2 := hP2.symm
        have e1 : IntKind.i64.wrap (gm * y1) = P1 := by rw [e2]; exact IntWalk.i64_in _ (by omega)
        have e3 : IntKind.i64.wrap (P1 * y2) = P2 := by rw [e4]; exact IntWalk.i64_in _ (by omega)
        clear hP1 hP2
        have cN := hst.n.cell
        have cL := hst.l.cell
        have cM := hst.m.cell
        have cA := hst.a.cell
        by_cases hE : gl = P2
        · have d1 : (gl != P2) = false := by simpa using hE
          have HF := Lib.hid (hft.snoc x (by rw [← HY.out.2.2.1, ← HY.out.2.2.2, ← HY.out.1, ← HY.out.2.1, ← HP.out.1, ← HP.out.2]; exact hE))
          have X := Lib.hid (And.intro hst xN)
          clear hst xN hft hE
          gi_wp2_with fail
          refine ⟨trivial, (callsIn_wide.2 (HC.out _)).mono ?_⟩
          rintro e w' ⟨rfl, rfl⟩
          gi_wp2_with fail
          refine round_quiet (by kernel_rfl) (by kernel_rfl) (by rintro ⟨_, _, x⟩; exact x) (by kernel_rfl) ?_
          repeat (go_big_quiet_step (fail))
          refine wpQuiet_nil ?_
          intro _ hw'
          obtain ⟨nq, hw''⟩ := hw'
          subst hw''
          gi_wp2
          have b2 := below_drewN (Below.refl Wp.heap.size Wp) nq
          exact ⟨(keeps_bel (below_drewN (Below.refl _ _) nq)).from _, rfl, X.out.1.keep b2, box_bel X.out.2 b2, HF.out⟩
        · have d1 : (gl != P2) = true := by simpa using hE
          have HF := Lib.hid (FtP.bad_snoc (ls := ls) (ms := ms) (xs := ampL ls ms f N) (pre := pre) x (by rw [← HY.out.2.2.1, ← HY.out.2.2.2, ← HY.out.1, ← HY.out.2.1, ← HP.out.1, ← HP.out.2]; exact hE))
          have X := Lib.hid (And.intro hst xN)
          clear hst xN hft hE
          gi_wp2_with fail
          refine ⟨trivial, (callsIn_wide.2 (HC.out _)).mono ?_⟩
          rintro e w' ⟨rfl, rfl⟩
          gi_wp2_with fail
          refine round_quiet (by kernel_rfl) (by kernel_rfl) (by rintro ⟨_, _, x⟩; exact x) (by kernel_rfl) ?_
          repeat (go_big_quiet_step (fail))
          refine wpQuiet_nil ?_
          intro _ hw'
          obtain ⟨nq, hw''⟩ := hw'
          subst hw''
          obtain ⟨Wd, hWd⟩ : ∃ W' : World, W' = Wp.drewN nq := ⟨_, rfl⟩
          have b2 : Below Wp.heap.size Wp Wd := by rw [hWd]; exact below_drewN (Below.refl _ _) nq
          rw [← hWd]
          clear hWd cN cL cM cA a1 a2 a3 a4 HC
          obtain ⟨⟨uP, cP⟩, fP, ⟨uQ, cQ⟩, fQ, S3, S4, _, SB, SK⟩ := (X.out.1.keep b2).fin (.slice none 0 0) (.bool false)
          have Y := Lib.hid (And.intro S3 (And.intro S4 (And.intro SB ((keeps_bel b2).trans SK))))
          have Z := Lib.hid (box_bel X.out.2 b2)
          clear S3 S4 SB SK b2 X
          gi_wp2
          exact ⟨Y.out.2.2.2.from _, ⟨rfl, HF.out⟩, Y.out.1, Y.out.2.1, Y.out.2.2.1⟩
      case done =>
        rintro D ys Wp hD hall ⟨hst, xN, hft⟩ hK
        have HF := Lib.hid (ampsF_yes (okF_mk HDV.out (hft.all hall)))
        clear st3 bN
        obtain ⟨Ao, co, rfl, hco, hcm⟩ := own_shape hst.r
        have cA := hst.a.cell
        obtain ⟨⟨uP, cP⟩, fP, ⟨uQ, cQ⟩, fQ, S3, S4, SR, SB, _⟩ := hst.fin (.slice Ao N co) (.bool true)
        have HK := Lib.hid ((Below.heap_setCell _ ⟨w.heap.size + 4, 0, none⟩ (.bool true) D (by simp; omega)).trans ((Below.heap_setCell Wp ⟨w.heap.size + 3, 0, none⟩ (.slice Ao N co) D (by simp; omega)).trans hK))
        have X := Lib.hid (And.intro S3 (And.intro S4 (And.intro SR SB)))
        clear S3 S4 SR SB hst hft
        gi_wp2
        refine ⟨by simp, .inl ⟨_, _, rfl, run_takeDeferred HK.out, ⟨_, results_cell2 rfl _ _ _ _ _ _ rfl rfl (load_ints (put_box X.out.1 (by omega))) (load_bool (put_box X.out.2.1 (by omega))), ?_⟩⟩⟩
        rw [HF.out]
        exact ⟨Ao, co, by simp, by simpa using hco, (Ow.of_own (own_putD HK.out X.out.2.2.1)).mono (by omega) (Nat.le_refl _), X.out.2.2.2.trans (belowK_b (w := w) (Nat.le_refl _) _ D _ _ (by omega) HK.out rfl rfl)⟩
      case stop =>
        rintro D c pre Wp hD hin ⟨⟨rfl, hbad⟩, hbP, hbQ, hB⟩ hK
        have HF := Lib.hid (ampsF_no (show okF ls ms N f = false by simp [okF, FtP.bad hbad]))
        gi_wp2
        refine ⟨by simp, .inl ⟨_, _, rfl, run_takeDeferred hK, ⟨_, results_cell2 rfl _ _ _ _ _ _ rfl rfl (load_ints (put_box hbP (by omega))) (load_bool (put_box hbQ (by omega))), ?_⟩⟩⟩
        rw [HF.out]
        exact RetA.none_ _ _ (hB.trans (belowK_b (w := w) (Nat.le_refl _) _ D _ _ (by omega) hK rfl rfl))
end Go.Proofs.Ytpdekpeknnlfmaa
