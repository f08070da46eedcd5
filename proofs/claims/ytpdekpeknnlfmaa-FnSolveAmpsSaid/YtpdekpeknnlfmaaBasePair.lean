/-
  Contract of the program's BasePair, where there is such a baseline.
-/
import Derived.Test.YtpdekpeknnlfmaaRemove
import Derived.Test.YtpdekpeknnlfmaaGet
namespace Go.Proofs.Ytpdekpeknnlfmaa
set_option linter.unusedVariables false
open Go.RowKit Go.Shelf
attribute [local go_sem] Oper.semAt_some

theorem results_cell3 {P : Program} {fn : Func} {p q r : Tmp} {ty ty' ty2 : TypeId} (h : fn.results = #[.cell p ty, .cell q ty', .cell r ty2]) (tmps : Array Value) (w : World) (a b c : Addr) (x y z : Value)
    (hp : tmps.getD p undef = .pointer (some a)) (hq : tmps.getD q undef = .pointer (some b)) (hr : tmps.getD r undef = .pointer (some c)) (hx : (loadVar ty a).run P w = .ok x w) (hy : (loadVar ty' b).run P w = .ok y w) (hz : (loadVar ty2 c).run P w = .ok z w) : (results fn tmps).run P w = .ok (.tuple #[x, y, z]) w := by
  have hp' : tmps[p]?.getD undef = .pointer (some a) := by simpa using hp
  have hq' : tmps[q]?.getD undef = .pointer (some b) := by simpa using hq
  have hr' : tmps[r]?.getD undef = .pointer (some c) := by simpa using hr
  simp [results, h, hp', hq', hr', asAddr, Sem.run_bind, Result.andThen, hx, hy, hz]
theorem load_int {W : World} {b : Nat} {v : Value} (h : Boxed W b 3 v) : (loadVar 3 ⟨b, 0, none⟩).run Try.prog W = .ok v W := by
  have hc := h.cell
  unfold loadVar
  go_simp
theorem bi_bs {N x : Nat} (n2 : 2 ≤ N) (n7 : N ≤ 7) (hx : x < nb N) : bi (N : Int) ((b1 N x : Nat) : Int) ((b2 N x : Nat) : Int) = (x : Int) := by
  obtain ⟨h1, h2, h3⟩ := bs_at n7 hx
  rw [bi_mk n2 n7 (by omega) h2 (by omega), gk_lt h1, h3]
theorem all_has {N : Nat} {xs : List (Bx N)} (h : AllB xs) {k : Nat} (hk : k < nb N) : ∃ y ∈ xs, y.1 = k := by
  have : k ∈ xs.map (·.1) := by rw [show xs.map (·.1) = List.range xs.length from h.1, h.2]; simpa using hk
  simpa using this

set_option maxRecDepth 100000 in
set_option maxHeartbeats 4000000 in
theorem BasePair_yes (N k : Nat) (w : World) (n2 : 2 ≤ N) (n7 : N ≤ 7) (hk : k < nb N) :
    Calls Try.prog 20 #[.int .i64 (N : Int), .int .i64 (k : Int)] w fun e w' => e = .returned (.tuple #[.int .i64 ((b1 N k : Nat) : Int), .int .i64 ((b2 N k : Nat) : Int), .bool true]) ∧ Below w.heap.size w w' := by
  have hnb := nb_le n7
  refine (callsIn_wide (n := 6)).1 ?_
  refine callsIn_of_wp_marks Try.func20 rfl trivial ?_ rfl
  simp only [Try.ntmps20, List.size_toArray, List.length_cons, List.length_nil, Nat.reduceAdd, Nat.reduceSub, Array.replicate_succ, Array.replicate_zero, List.push_toArray, List.append_toArray, List.nil_append, List.cons_append]
  gi_wp2_with (refine ⟨trivial, ?_⟩; gi_at_call 54; refine (callsIn_wide.2 (bases_any _ _)).mono ?_; rintro e w' ⟨rfl, rfl⟩)
  obtain ⟨W3, hW3⟩ : ∃ W3 : World, W3 = (((((w.alloc (.cells #[.int .i64 (N : Int)] 3)).alloc (.cells #[.int .i64 (k : Int)] 3)).alloc (.cells #[.int .i64 0] 3)).alloc (.cells #[.int .i64 0] 3)).alloc (.cells #[.bool false] 4)).alloc (.cells #[.int .i64 (N : Int)] 3) := ⟨_, rfl⟩
  try simp only [Nat.add_assoc, Nat.reduceAdd] at hW3 ⊢
  rw [← hW3]
  have bw : Below w.heap.size w W3 := by rw [hW3]; exact ((((((Below.refl _ _).alloc (Nat.le_refl _) _).alloc (by simp) _).alloc (by simp; omega) _).alloc (by simp; omega) _).alloc (by simp; omega) _).alloc (by simp; omega) _
  have x0 : Boxed W3 w.heap.size 3 (.int .i64 (N : Int)) := by rw [hW3]; exact ((((((show Boxed (w.alloc (.cells #[.int .i64 (N : Int)] 3)) w.heap.size 3 (.int .i64 (N : Int)) by simpa using Boxed.new w 3 (.int .i64 (N : Int))).alloc _).alloc _).alloc _).alloc _).alloc _)
  have x1 : Boxed W3 (w.heap.size + 1) 3 (.int .i64 (k : Int)) := by rw [hW3]; exact (((((show Boxed ((w.alloc (.cells #[.int .i64 (N : Int)] 3)).alloc (.cells #[.int .i64 (k : Int)] 3)) (w.heap.size + 1) 3 (.int .i64 (k : Int)) by simpa using Boxed.new (w.alloc (.cells #[.int .i64 (N : Int)] 3)) 3 (.int .i64 (k : Int))).alloc _).alloc _).alloc _).alloc _)
  have x2 : Boxed W3 (w.heap.size + 2) 3 (.int .i64 0) := by rw [hW3]; exact ((((show Boxed (((w.alloc (.cells #[.int .i64 (N : Int)] 3)).alloc (.cells #[.int .i64 (k : Int)] 3)).alloc (.cells #[.int .i64 0] 3)) (w.heap.size + 2) 3 (.int .i64 0) by simpa using Boxed.new ((w.alloc (.cells #[.int .i64 (N : Int)] 3)).alloc (.cells #[.int .i64 (k : Int)] 3)) 3 (.int .i64 0)).alloc _).alloc _).alloc _)
  have x3 : Boxed W3 (w.heap.size + 3) 3 (.int .i64 0) := by rw [hW3]; exact (((show Boxed ((((w.alloc (.cells #[.int .i64 (N : Int)] 3)).alloc (.cells #[.int .i64 (k : Int)] 3)).alloc (.cells #[.int .i64 0] 3)).alloc (.cells #[.int .i64 0] 3)) (w.heap.size + 3) 3 (.int .i64 0) by simpa using Boxed.new (((w.alloc (.cells #[.int .i64 (N : Int)] 3)).alloc (.cells #[.int .i64 (k : Int)] 3)).alloc (.cells #[.int .i64 0] 3)) 3 (.int .i64 0)).alloc _).alloc _)
  have x4 : Boxed W3 (w.heap.size + 4) 4 (.bool false) := by rw [hW3]; exact ((show Boxed (((((w.alloc (.cells #[.int .i64 (N : Int)] 3)).alloc (.cells #[.int .i64 (k : Int)] 3)).alloc (.cells #[.int .i64 0] 3)).alloc (.cells #[.int .i64 0] 3)).alloc (.cells #[.bool false] 4)) (w.heap.size + 4) 4 (.bool false) by simpa using Boxed.new ((((w.alloc (.cells #[.int .i64 (N : Int)] 3)).alloc (.cells #[.int .i64 (k : Int)] 3)).alloc (.cells #[.int .i64 0] 3)).alloc (.cells #[.int .i64 0] 3)) 4 (.bool false)).alloc _)
  have x5 : Boxed W3 (w.heap.size + 5) 3 (.int .i64 (N : Int)) := by rw [hW3]; exact (show Boxed ((((((w.alloc (.cells #[.int .i64 (N : Int)] 3)).alloc (.cells #[.int .i64 (k : Int)] 3)).alloc (.cells #[.int .i64 0] 3)).alloc (.cells #[.int .i64 0] 3)).alloc (.cells #[.bool false] 4)).alloc (.cells #[.int .i64 (N : Int)] 3)) (w.heap.size + 5) 3 (.int .i64 (N : Int)) by simpa using Boxed.new (((((w.alloc (.cells #[.int .i64 (N : Int)] 3)).alloc (.cells #[.int .i64 (k : Int)] 3)).alloc (.cells #[.int .i64 0] 3)).alloc (.cells #[.int .i64 0] 3)).alloc (.cells #[.bool false] 4)) 3 (.int .i64 (N : Int)))
  have Z3 := Lib.hid (show W3.heap.size = w.heap.size + 6 by rw [hW3]; simp)
  have z3 : w.heap.size + 6 ≤ W3.heap.size := Nat.le_of_eq Z3.out.symm
  clear hW3
  refine' wpIn_rangeFunc_ownG rfl (by decide) (gf := 80) (lb := #[.pointer (some ⟨w.heap.size + 5, 0, none⟩)]) rfl trivial (enters_of Try.func80 (by kernel_rfl) rfl)
    (bases_stops N 5 n2 n7 (by decide) (w.heap.size + 5) W3 x5) kpB_t (kpB_b (by omega)) (Below.refl _ _) (fun _ => rfl)
    (fun (pre : List (Bx N)) W => (∀ y ∈ pre, y.1 ≠ k) ∧ Boxed W w.heap.size 3 (.int .i64 (N : Int)) ∧ Boxed W (w.heap.size + 1) 3 (.int .i64 (k : Int)) ∧ (∃ v, Boxed W (w.heap.size + 2) 3 v) ∧ (∃ v, Boxed W (w.heap.size + 3) 3 v) ∧ (∃ v, Boxed W (w.heap.size + 4) 4 v) ∧ Boxed W (w.heap.size + 5) 3 (.int .i64 (N : Int)) ∧ Below w.heap.size w W)
    (fun c pre W => c = .ret ∧ Boxed W (w.heap.size + 2) 3 (.int .i64 ((b1 N k : Nat) : Int)) ∧ Boxed W (w.heap.size + 3) 3 (.int .i64 ((b2 N k : Nat) : Int)) ∧ Boxed W (w.heap.size + 4) 4 (.bool true) ∧ Below w.heap.size w W)
    (OwnFrom.and (ownFrom_pure _ (fun (pre : List (Bx N)) => ∀ y ∈ pre, y.1 ≠ k)) (OwnFrom.and (Own.from (boxed_own _ _ _) _) (OwnFrom.and (Own.from (boxed_own _ _ _) _) (OwnFrom.and (Own.from (boxed_some _ _) _) (OwnFrom.and (Own.from (boxed_some _ _) _) (OwnFrom.and (Own.from (boxed_some _ _) _) (OwnFrom.and (Own.from (boxed_own _ _ _) _) (ownFrom_below (Nat.le_refl _) (by omega)))))))))
    (fun c => OwnFrom.and (ownFrom_pure _ (fun _ => c = .ret)) (OwnFrom.and (Own.from (boxed_own _ _ _) _) (OwnFrom.and (Own.from (boxed_own _ _ _) _) (OwnFrom.and (Own.from (boxed_own _ _ _) _) (ownFrom_below (Nat.le_refl _) (by omega))))))
    ⟨by simp, x0, x1, ⟨_, x2⟩, ⟨_, x3⟩, ⟨_, x4⟩, x5, bw⟩
    _ ?assign ?body ?done ?stop
  case assign =>
    intro l x W K hK
    unfold encB
    gi_wp2
    exact hK
  case body =>
    clear x0 x1 x2 x3 x4 x5 bw
    rintro l pre x W ⟨hno, x0, x1, ⟨v2, x2⟩, ⟨v3, x3⟩, ⟨v4, x4⟩, x5, hB⟩ hlt
    have BI := Lib.hid (bi_bs n2 n7 x.2)
    have KC : Hid (∀ w' : World, Below W.heap.size W w' → w'.cell? ⟨w.heap.size, 0, none⟩ = some (.int .i64 (N : Int)) ∧ w'.cell? ⟨w.heap.size + 1, 0, none⟩ = some (.int .i64 (k : Int))) :=
      Lib.hid fun w' h => ⟨bel_cell h x0.lt x0.cell, bel_cell h x1.lt x1.cell⟩
    have HS := Lib.hid ((Below.refl W.heap.size W).drew)
    have KO := Lib.hid (KeepsOthers.drew W)
    have HNO := Lib.hid hno
    replace x0 : Boxed W.drew w.heap.size 3 (.int .i64 (N : Int)) := x0
    replace x1 : Boxed W.drew (w.heap.size + 1) 3 (.int .i64 (k : Int)) := x1
    replace x2 : Boxed W.drew (w.heap.size + 2) 3 v2 := x2
    replace x3 : Boxed W.drew (w.heap.size + 3) 3 v3 := x3
    replace x4 : Boxed W.drew (w.heap.size + 4) 4 v4 := x4
    have x5' : Boxed W.drew (w.heap.size + 5) 3 (.int .i64 (N : Int)) := x5
    have HB : Below w.heap.size w W.drew := hB.drew
    clear hno
    gi_upto_region 4 with fail
    refine round_held (S := fun w' => Below W.heap.size W w') (by kernel_rfl) (by kernel_rfl) (by rintro ⟨_, _, x⟩; exact x) HS.out ?_
    refine takeL (i := 0) (v := ?_) rfl (by kernel_rfl) (by kernel_rfl) (by kernel_rfl) (fun _ _ _ h => h) (by rfl) ?_ HS.out ?_
    rotate_left
    · (intro w' hS'; obtain ⟨f1, f2⟩ := KC.out w' hS'; go_simp; try with_reducible rfl)
    simp only [Act.put, List.setIfInBounds_toArray, List.set_cons_zero, List.set_cons_succ]
    refine takeL (i := 1) (v := ?_) rfl (by kernel_rfl) (by kernel_rfl) (by kernel_rfl) (fun _ _ _ h => h) (by rfl) ?_ HS.out ?_
    rotate_left
    · (intro w' hS'; obtain ⟨f1, f2⟩ := KC.out w' hS'; go_simp; try with_reducible rfl)
    simp only [Act.put, List.setIfInBounds_toArray, List.set_cons_zero, List.set_cons_succ]
    refine takeL (i := 2) (v := ?_) rfl (by kernel_rfl) (by kernel_rfl) (by kernel_rfl) (fun _ _ _ h => h) (by rfl) ?_ HS.out ?_
    rotate_left
    · (intro w' hS'; obtain ⟨f1, f2⟩ := KC.out w' hS'; go_simp; try with_reducible rfl)
    simp only [Act.put, List.setIfInBounds_toArray, List.set_cons_zero, List.set_cons_succ]
    refine takeL (i := 4) (v := ?_) rfl (by kernel_rfl) (by kernel_rfl) (by kernel_rfl) (fun _ _ _ h => h) (by rfl) ?_ HS.out ?_
    rotate_left
    · (intro w' hS'; obtain ⟨f1, f2⟩ := KC.out w' hS'; go_simp; try with_reducible rfl)
    simp only [Act.put, List.setIfInBounds_toArray, List.set_cons_zero, List.set_cons_succ]
    refine readyL (rs := [3]) (by kernel_rfl) (by simp) ?_
    refine consL rfl (fun K hK => ?_) AllReadyH.nil
    go_simp
    go_at_call 19
    refine (BaseIndex_any _ _ _ _).mono ?_; rintro e w' ⟨rfl, rfl⟩
    rw [BI.out]
    go_simp
    refine hK.out _ _ ?_ (fun HS2 => ?_)
    · exact HS.out
    clear hK K
    refine takeL (i := 5) (v := ?_) rfl (by kernel_rfl) (by kernel_rfl) (by kernel_rfl) (fun _ _ _ h => h) (by rfl) ?_ HS.out ?_
    rotate_left
    · (intro w' hS'; obtain ⟨f1, f2⟩ := KC.out w' hS'; go_simp; try with_reducible rfl)
    simp only [Act.put, List.setIfInBounds_toArray, List.set_cons_zero, List.set_cons_succ]
    refine doneL (by kernel_rfl) ?_ _
    clear KC HS BI
    generalize hW : W.drew = Wd at *
    by_cases hxk : x.1 = k
    · subst hxk
      have e0 : (((x.1 : Nat) : Int) == ((x.1 : Nat) : Int)) = true := by simp
      have c2 := x2.cell
      have f2 := x2.frozen
      have c3 := x3.cell
      have f3 := x3.frozen
      have c4 := x4.cell
      have f4 := x4.frozen
      have S2 := Lib.hid (((x2.set (.int .i64 ((b1 N x.1 : Nat) : Int))).other (show w.heap.size + 2 ≠ w.heap.size + 3 by omega) (.int .i64 ((b2 N x.1 : Nat) : Int))).other (show w.heap.size + 2 ≠ w.heap.size + 4 by omega) (.bool true))
      have S3 := Lib.hid (((x3.other (show w.heap.size + 3 ≠ w.heap.size + 2 by omega) (.int .i64 ((b1 N x.1 : Nat) : Int))).set (.int .i64 ((b2 N x.1 : Nat) : Int))).other (show w.heap.size + 3 ≠ w.heap.size + 4 by omega) (.bool true))
      have S4 := Lib.hid (((x4.other (show w.heap.size + 4 ≠ w.heap.size + 2 by omega) (.int .i64 ((b1 N x.1 : Nat) : Int))).other (show w.heap.size + 4 ≠ w.heap.size + 3 by omega) (.int .i64 ((b2 N x.1 : Nat) : Int))).set (.bool true))
      have SB := Lib.hid (((HB.setCell (p := ⟨w.heap.size + 2, 0, none⟩) (by simp) (.int .i64 ((b1 N x.1 : Nat) : Int))).setCell (p := ⟨w.heap.size + 3, 0, none⟩) (by simp) (.int .i64 ((b2 N x.1 : Nat) : Int))).setCell (p := ⟨w.heap.size + 4, 0, none⟩) (by simp) (.bool true))
      have K3 := Lib.hid (((KO.out.trans (KeepsOthers.setCell Wd ⟨w.heap.size + 2, 0, none⟩ (.int .i64 ((b1 N x.1 : Nat) : Int)))).trans (KeepsOthers.setCell _ ⟨w.heap.size + 3, 0, none⟩ (.int .i64 ((b2 N x.1 : Nat) : Int)))).trans (KeepsOthers.setCell _ ⟨w.heap.size + 4, 0, none⟩ (.bool true)))
      clear x0 x1 x2 x3 x4 x5 x5' HB hB hW
      gi_wp2
      exact ⟨K3.out.from _, rfl, S2.out, S3.out, S4.out, SB.out⟩
    · have e0 : (((x.1 : Nat) : Int) == (k : Int)) = false := by simp; omega
      have HN2 := Lib.hid (show ∀ y ∈ pre ++ [x], y.1 ≠ k from fun y hy => by
        rw [List.mem_append, List.mem_singleton] at hy
        rcases hy with hy | rfl
        · exact HNO.out y hy
        · exact hxk)
      have KP := Lib.hid (show KpB (w.heap.size + 5) W Wd from Eq.trans x5' x5.symm)
      have X := Lib.hid (And.intro x0 (And.intro x1 (And.intro x2 (And.intro x3 (And.intro x4 (And.intro x5' HB))))))
      clear x0 x1 x2 x3 x4 x5 x5' HB hB hW
      gi_wp2
      exact ⟨KO.out.from _, KP.out, HN2.out, X.out.1, X.out.2.1, ⟨_, X.out.2.2.1⟩, ⟨_, X.out.2.2.2.1⟩, ⟨_, X.out.2.2.2.2.1⟩, X.out.2.2.2.2.2.1, X.out.2.2.2.2.2.2⟩
  case done =>
    rintro D ys W hD hall ⟨hno, _⟩ hK
    obtain ⟨y, hy, e⟩ := all_has hall hk
    exact absurd e (hno y hy)
  case stop =>
    rintro D c pre W hD hin ⟨rfl, h2, h3, h4, hB⟩ hK
    gi_wp2
    refine ⟨by simp, .inl ⟨_, _, rfl, run_takeDeferred hK, ⟨_, results_cell3 rfl _ _ _ _ _ _ _ _ rfl rfl rfl (load_int (put_box h2 (by omega))) (load_int (put_box h3 (by omega))) (load_bool (put_box h4 (by omega))), ?_⟩⟩⟩
    exact ⟨rfl, hB.trans (belowK_b (w := w) (Nat.le_refl _) _ D _ _ (by omega) hK rfl rfl)⟩
end Go.Proofs.Ytpdekpeknnlfmaa
