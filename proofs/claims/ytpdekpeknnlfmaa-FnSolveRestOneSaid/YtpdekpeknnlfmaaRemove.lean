/-
  Contract of the program's GainRemove.
-/
import Derived.Test.YtpdekpeknnlfmaaApply
import Derived.Test.YtpdekpeknnlfmaaRemoveS
namespace Go.Proofs.Ytpdekpeknnlfmaa
set_option linter.unusedVariables false
open Go.RowKit Go.Shelf
attribute [local go_sem] Oper.semAt_some

/-- the amplitudes of all baselines that have come can be divided -/
def DvP {N : Nat} (ls gs : List (Int × Int)) (pre : List (Bx N)) : Prop := ∀ p, p < pre.length → g1 ls p % (g1 gs (b1 N ((pre.map (·.1)).getD p 0)) * g1 gs (b2 N ((pre.map (·.1)).getD p 0))) = 0
theorem DvP.nil {N : Nat} (ls gs : List (Int × Int)) : DvP ls gs ([] : List (Bx N)) := fun p hp => absurd hp (by simp)
theorem getD_snoc {N : Nat} (pre : List (Bx N)) (x : Bx N) : ((pre ++ [x]).map (·.1)).getD pre.length 0 = x.1 := by simp
theorem getD_pre {N : Nat} (pre : List (Bx N)) (x : Bx N) {p : Nat} (hp : p < pre.length) : ((pre ++ [x]).map (·.1)).getD p 0 = (pre.map (·.1)).getD p 0 := by simp [List.getElem?_append, hp]
theorem DvP.snoc {N : Nat} {ls gs : List (Int × Int)} {pre : List (Bx N)} (h : DvP ls gs pre) (x : Bx N) (e : g1 ls pre.length % (g1 gs (b1 N x.1) * g1 gs (b2 N x.1)) = 0) : DvP ls gs (pre ++ [x]) := fun p hp => by
  rw [List.length_append, List.length_singleton] at hp
  by_cases hk : p = pre.length
  · subst hk; rw [getD_snoc]; exact e
  · rw [getD_pre pre x (by omega)]; exact h p (by omega)
theorem DvP.bad_snoc {N : Nat} {ls gs : List (Int × Int)} {pre : List (Bx N)} (x : Bx N) (e : g1 ls pre.length % (g1 gs (b1 N x.1) * g1 gs (b2 N x.1)) ≠ 0) : ¬ DvP ls gs (pre ++ [x]) := fun h => by
  have := h pre.length (by simp)
  rw [getD_snoc] at this
  exact e this
theorem inOrder_at {N : Nat} {pre : List (Bx N)} (h : InOrder pre) {p : Nat} (hp : p < pre.length) : (pre.map (·.1)).getD p 0 = p ∧ p < nb N := by
  have e : (pre.map (·.1)).getD p 0 = p := by rw [show pre.map (·.1) = List.range pre.length from h]; simp [hp]
  refine ⟨e, ?_⟩
  have : (pre.map (·.1)).getD p 0 = (pre[p]).1 := by simp [hp]
  have h2 := (pre[p]).2
  omega
theorem DvP.all {N : Nat} {ls gs : List (Int × Int)} {xs : List (Bx N)} (h : AllB xs) (hd : DvP ls gs xs) : rmB N ls gs = true := rmB_iff.2 fun p hp => by
  have := hd p (by rw [h.2]; exact hp)
  rw [(inOrder_at h.1 (by rw [h.2]; exact hp)).1] at this
  exact this
theorem DvP.bad {N : Nat} {ls gs : List (Int × Int)} {pre : List (Bx N)} (h : InOrder pre) (hd : ¬ DvP ls gs pre) : rmB N ls gs = false := by
  rw [Bool.eq_false_iff]
  intro e
  refine hd fun p hp => ?_
  obtain ⟨e1, e2⟩ := inOrder_at h hp
  rw [e1]
  exact rmB_iff.1 e p e2

theorem results_cell2 {P : Program} {fn : Func} {p q : Tmp} {ty ty' : TypeId} (h : fn.results = #[.cell p ty, .cell q ty']) (tmps : Array Value) (w : World) (a b : Addr) (x y : Value)
    (hp : tmps.getD p undef = .pointer (some a)) (hq : tmps.getD q undef = .pointer (some b)) (hx : (loadVar ty a).run P w = .ok x w) (hy : (loadVar ty' b).run P w = .ok y w) : (results fn tmps).run P w = .ok (.tuple #[x, y]) w := by
  have hp' : tmps[p]?.getD undef = .pointer (some a) := by simpa using hp
  have hq' : tmps[q]?.getD undef = .pointer (some b) := by simpa using hq
  simp [results, h, hp', hq', asAddr, Sem.run_bind, Result.andThen, hx, hy]
theorem put_box {W : World} {b D : Nat} {t : TypeId} {v : Value} {o : Obj} (h : Boxed W b t v) (hne : b ≠ D) : Boxed (W.putObj D o) b t v := (World.putObj_heap_other hne).trans h
theorem load_slice {W : World} {b : Nat} {v : Value} (h : Boxed W b 23 v) : (loadVar 23 ⟨b, 0, none⟩).run Try.prog W = .ok v W := by
  have hc := h.cell
  unfold loadVar
  go_simp
theorem load_bool {W : World} {b : Nat} {v : Value} (h : Boxed W b 4 v) : (loadVar 4 ⟨b, 0, none⟩).run Try.prog W = .ok v W := by
  have hc := h.cell
  unfold loadVar
  go_simp

theorem boxed_some {β : Type} (B : Nat) (t : TypeId) : Own (fun (_ : β) W => ∃ v, Boxed W B t v) := fun s X Y row ⟨v, hs⟩ hg hrow =>
  ⟨v, boxed_own B t (fun (_ : β) => v) s X Y row hs hg hrow⟩
set_option maxRecDepth 100000 in
set_option maxHeartbeats 4000000 in
theorem GainRemove_yes (N : Nat) (A B : Option Addr) (c d : Nat) (ls gs : List (Int × Int)) (w : World) (hls : Rd w A (pairs ls)) (hgs : Rd w B (pairs gs)) (vl : visB (N : Int) ls = true) (vg : gainB (N : Int) gs = true) {m m' : Nat} (hm : ls.length = m) (hm' : gs.length = m') :
    Calls Try.prog 41 #[.int .i64 (N : Int), .slice A m c, .slice B m' d] w (RetG w 32 (gainRemove (N : Int) ls gs)) := by
  have hmn := inB_true (visB_ok vl).1
  have n2 : 2 ≤ N := by omega
  have n7 : N ≤ 7 := by omega
  have hnb := nb_le n7
  have LL := Lib.hid (visB_len vl)
  have LG := Lib.hid (gainB_len vg)
  have hll : ls.length ≤ 1048592 := by have := LL.out; omega
  have hlg : gs.length ≤ 1048592 := by have := LG.out; omega
  subst hm hm'
  obtain ⟨i0, hi, hz0, hz1, hz2⟩ := info_parts info_Vis
  clear hmn
  refine (callsIn_wide (n := 6)).1 ?_
  refine callsIn_of_wp_marks Try.func41 rfl trivial ?_ rfl
  simp only [Try.ntmps41, List.size_toArray, List.length_cons, List.length_nil, Nat.reduceAdd, Nat.reduceSub, Array.replicate_succ, Array.replicate_zero, List.push_toArray, List.append_toArray, List.nil_append, List.cons_append]
  obtain ⟨W0, hW0⟩ : ∃ W0 : World, W0 = (((w.alloc (.cells #[.slice A ls.length c] 23)).alloc (.cells #[.slice B gs.length d] 23)).alloc (.cells #[.slice none 0 0] 23)).alloc (.cells #[.bool false] 4) := ⟨_, rfl⟩
  have bw0 : Below w.heap.size w W0 := by rw [hW0]; exact ((((Below.refl _ _).alloc (Nat.le_refl _) _).alloc (by simp) _).alloc (by simp; omega) _).alloc (by simp; omega) _
  have bL : Boxed W0 w.heap.size 23 (.slice A ls.length c) := by rw [hW0]; exact (((Boxed.new w _ _).alloc _).alloc _).alloc _
  have bG : Boxed W0 (w.heap.size + 1) 23 (.slice B gs.length d) := by rw [hW0]; have := Boxed.new (w.alloc (.cells #[.slice A ls.length c] 23)) 23 (.slice B gs.length d); exact ((show Boxed ((w.alloc (.cells #[.slice A ls.length c] 23)).alloc (.cells #[.slice B gs.length d] 23)) (w.heap.size + 1) 23 (.slice B gs.length d) by simpa using this).alloc _).alloc _
  have bP : Boxed W0 (w.heap.size + 2) 23 (.slice none 0 0) := by rw [hW0]; have := Boxed.new ((w.alloc (.cells #[.slice A ls.length c] 23)).alloc (.cells #[.slice B gs.length d] 23)) 23 (.slice none 0 0); exact (show Boxed (((w.alloc (.cells #[.slice A ls.length c] 23)).alloc (.cells #[.slice B gs.length d] 23)).alloc (.cells #[.slice none 0 0] 23)) (w.heap.size + 2) 23 (.slice none 0 0) by simpa using this).alloc _
  have bQ : Boxed W0 (w.heap.size + 3) 4 (.bool false) := by rw [hW0]; have := Boxed.new (((w.alloc (.cells #[.slice A ls.length c] 23)).alloc (.cells #[.slice B gs.length d] 23)).alloc (.cells #[.slice none 0 0] 23)) 4 (.bool false); simpa using this
  have z0 : W0.heap.size = w.heap.size + 4 := by rw [hW0]; simp
  have Z0 := Lib.hid z0
  clear z0
  gi_wp2_with fail
  rw [← hW0]
  clear hW0
  refine ⟨trivial, (callsIn_wide.2 (VisValid_any _ _ _ _ _ (hls.below bw0 (Nat.le_refl _)) hll rfl)).mono ?_⟩
  rintro e W1 ⟨rfl, b1⟩
  rw [vl]
  have s1 := b1.size
  replace bL := bL.belowB b1
  replace bG := bG.belowB b1
  replace bP := bP.belowB b1
  replace bQ := bQ.belowB b1
  have bw1 := bw0.trans (b1.mono bw0.size)
  have cL := bL.cell
  have cG := bG.cell
  clear b1 bw0
  gi_wp2_with fail
  refine ⟨trivial, (callsIn_wide.2 (GainsValid_any _ _ _ _ _ (hgs.below bw1 (Nat.le_refl _)) hlg rfl)).mono ?_⟩
  rintro e W2 ⟨rfl, b2⟩
  rw [vg]
  have s2 := b2.size
  replace bL := bL.belowB b2
  replace bG := bG.belowB b2
  replace bP := bP.belowB b2
  replace bQ := bQ.belowB b2
  have bw2 := bw1.trans (b2.mono bw1.size)
  clear b2 bw1 cL cG
  have z2 : w.heap.size + 4 ≤ W2.heap.size := by have := Z0.out; omega
  gi_wp2_with (refine ⟨trivial, ?_⟩; gi_at_call 54; refine (callsIn_wide.2 (bases_any _ _)).mono ?_; rintro e w' ⟨rfl, rfl⟩)
  obtain ⟨W3, hW3⟩ : ∃ W3 : World, W3 = (W2.alloc (.cells #[.slice none 0 0] 23)).alloc (.cells #[.int .i64 (N : Int)] 3) := ⟨_, rfl⟩
  rw [← hW3]
  have bO : Boxed W3 W2.heap.size 23 (.slice none 0 0) := by rw [hW3]; exact (Boxed.new W2 _ _).alloc _
  have bN : Boxed W3 (W2.heap.size + 1) 3 (.int .i64 (N : Int)) := by rw [hW3]; have := Boxed.new (W2.alloc (.cells #[.slice none 0 0] 23)) 3 (.int .i64 (N : Int)); simpa using this
  have b3 : Below W2.heap.size W2 W3 := by rw [hW3]; exact ((Below.refl _ _).alloc (Nat.le_refl _) _).alloc (by simp) _
  have Z3 := Lib.hid (show W3.heap.size = W2.heap.size + 2 by rw [hW3]; simp)
  have z3 : W2.heap.size + 2 ≤ W3.heap.size := by have := Z3.out; omega
  replace bL := bL.belowB b3
  replace bG := bG.belowB b3
  replace bP := bP.belowB b3
  replace bQ := bQ.belowB b3
  have bw3 := bw2.trans (b3.mono bw2.size)
  clear hW3 b3 bw2
  refine' wpIn_rangeFunc_ownG rfl (by decide) (gf := 80) (lb := #[.pointer (some ⟨W2.heap.size + 1, 0, none⟩)]) rfl trivial (enters_of Try.func80 (by kernel_rfl) rfl)
    (bases_stops N 5 n2 n7 (by decide) (W2.heap.size + 1) W3 bN) kpB_t (kpB_b (by omega)) (Below.refl _ _) (fun _ => rfl)
    (fun pre W => (∃ v, Boxed W W2.heap.size 23 v ∧ W.ownsRow w.heap.size 32 2 v pre.length (pairs (outL (rmE ls gs N) pre)) ∧ DvP ls gs pre) ∧ Boxed W w.heap.size 23 (.slice A ls.length c) ∧ Boxed W (w.heap.size + 1) 23 (.slice B gs.length d) ∧ Boxed W (W2.heap.size + 1) 3 (.int .i64 (N : Int)) ∧ Below w.heap.size w W ∧ (∃ p, Boxed W (w.heap.size + 2) 23 p) ∧ ∃ q, Boxed W (w.heap.size + 3) 4 q)
    (fun c pre W => (c = .ret ∧ ¬ DvP ls gs pre) ∧ Boxed W (w.heap.size + 2) 23 (.slice none 0 0) ∧ Boxed W (w.heap.size + 3) 4 (.bool false) ∧ Below w.heap.size w W)
    (OwnFrom.and (Own.from (holdsRow_own w.heap.size W2.heap.size 23 32 2 (fun pre => pre.length) (fun pre => pairs (outL (rmE ls gs N) pre)) (fun pre _ => DvP ls gs pre)) _) (OwnFrom.and (Own.from (boxed_own _ _ _) _) (OwnFrom.and (Own.from (boxed_own _ _ _) _) (OwnFrom.and (Own.from (boxed_own _ _ _) _) (OwnFrom.and (ownFrom_below (Nat.le_refl _) (by omega)) (OwnFrom.and (Own.from (boxed_some _ _) _) (Own.from (boxed_some _ _) _)))))))
    (fun c => OwnFrom.and (ownFrom_pure _ (fun pre => c = .ret ∧ ¬ DvP ls gs pre)) (OwnFrom.and (Own.from (boxed_own _ _ _) _) (OwnFrom.and (Own.from (boxed_own _ _ _) _) (ownFrom_below (Nat.le_refl _) (by omega)))))
    ⟨⟨_, bO, World.ownsRow_nil _ _ _ _, DvP.nil _ _⟩, bL, bG, bN, bw3, ⟨_, bP⟩, ⟨_, bQ⟩⟩
    _ ?assign ?body ?done ?stop
  case assign =>
    intro l x W K hK
    unfold encB
    gi_wp2
    exact hK
  case body =>
    rintro l pre x W ⟨⟨v, hv, hrow, hdv⟩, hbL, hbG, hbN, hB, ⟨vp, hbP⟩, ⟨vq, hbQ⟩⟩ hlt
    obtain ⟨Ao, co, rfl, hco, hcm⟩ := own_shape hrow
    obtain ⟨x12, x2N, _⟩ := bs_at n7 x.2
    obtain ⟨qa, oa, rfl, hqa, a1, a2⟩ := (hls.below hB (Nat.le_refl _)).pair_at (k := pre.length) (by rw [LL.out]; exact hlt)
    obtain ⟨qb, ob, rfl, hqb, c1, c2⟩ := (hgs.below hB (Nat.le_refl _)).pair_at (k := b1 N x.1) (by rw [LG.out]; omega)
    obtain ⟨qb', ob', e, _, d1, d2⟩ := (hgs.below hB (Nat.le_refl _)).pair_at (k := b2 N x.1) (by rw [LG.out]; exact x2N)
    injection e with e
    injection e with e1 e2
    subst e1 e2
    have KC : Hid (∀ w' : World, Below W.heap.size W w' → w'.cell? ⟨w.heap.size, 0, none⟩ = some (.slice (some ⟨qa, oa, none⟩) ls.length c) ∧ w'.cell? ⟨W2.heap.size, 0, none⟩ = some (.slice Ao pre.length co) ∧ w'.cell? ⟨w.heap.size + 1, 0, none⟩ = some (.slice (some ⟨qb, ob, none⟩) gs.length d) ∧
        w'.cell? ⟨qa, oa + pre.length * 2, none⟩ = some (.int .i64 (g1 ls pre.length)) ∧ w'.cell? ⟨qa, oa + pre.length * 2 + 1, none⟩ = some (.int .i64 (g2 ls pre.length)) ∧
        w'.cell? ⟨qb, ob + b1 N x.1 * 2, none⟩ = some (.int .i64 (g1 gs (b1 N x.1))) ∧ w'.cell? ⟨qb, ob + b1 N x.1 * 2 + 1, none⟩ = some (.int .i64 (g2 gs (b1 N x.1))) ∧
        w'.cell? ⟨qb, ob + b2 N x.1 * 2, none⟩ = some (.int .i64 (g1 gs (b2 N x.1))) ∧ w'.cell? ⟨qb, ob + b2 N x.1 * 2 + 1, none⟩ = some (.int .i64 (g2 gs (b2 N x.1)))) :=
      Lib.hid fun w' h => ⟨bel_cell h hbL.lt hbL.cell, bel_cell h hv.lt hv.cell, bel_cell h hbG.lt hbG.cell, bel_cell h hqa a1, bel_cell h hqa a2, bel_cell h hqb c1, bel_cell h hqb c2, bel_cell h hqb d1, bel_cell h hqb d2⟩
    have i1 : (pre.length : Int) < (ls.length : Int) := by rw [LL.out]; omega
    have i2 : ((b1 N x.1 : Nat) : Int) < (gs.length : Int) := by rw [LG.out]; omega
    have i3 : ((b2 N x.1 : Nat) : Int) < (gs.length : Int) := by rw [LG.out]; omega
    have HDV := Lib.hid hdv
    clear hdv
    have HS := Lib.hid ((Below.refl W.heap.size W).drew)
    gi_upto_region 7 with fail
    gi_cut [11, 12, 13] from 28 (fun p1 p2 p3 W' => ∃ y1 y2 y3 : Nat, p1 = .pointer (some ⟨y1, 0, none⟩) ∧ p2 = .pointer (some ⟨y2, 0, none⟩) ∧ p3 = .pointer (some ⟨y3, 0, none⟩) ∧ W.heap.size ≤ y1 ∧ W.heap.size ≤ y2 ∧ W.heap.size ≤ y3 ∧
      W'.heap[y1]? = some (.cells #[.int .i64 (g1 ls pre.length), .int .i64 (g2 ls pre.length)] 32 (0, 0)) ∧ W'.heap[y2]? = some (.cells #[.int .i64 (g1 gs (b1 N x.1)), .int .i64 (g2 gs (b1 N x.1))] 32 (0, 0)) ∧ W'.heap[y3]? = some (.cells #[.int .i64 (g1 gs (b2 N x.1)), .int .i64 (g2 gs (b2 N x.1))] 32 (0, 0)) ∧ Below W.heap.size W W')
    case first =>
      refine round_held (S := fun w' => Below W.heap.size W w') (by kernel_rfl) (by kernel_rfl) (by rintro ⟨_, _, x⟩; exact x) HS.out ?_
      refine takeL (i := 0) (v := ?_) rfl (by kernel_rfl) (by kernel_rfl) (by kernel_rfl) (fun _ _ _ h => h) (by rfl) ?_ HS.out ?_
      rotate_left
      · (intro w' hS'; obtain ⟨f1, f2, f3, f4, f5, f6, f7, f8, f9⟩ := KC.out w' hS'; go_simp; try with_reducible rfl)
      simp only [Act.put, List.setIfInBounds_toArray, List.set_cons_zero, List.set_cons_succ]
      refine takeL (i := 1) (v := ?_) rfl (by kernel_rfl) (by kernel_rfl) (by kernel_rfl) (fun _ _ _ h => h) (by rfl) ?_ HS.out ?_
      rotate_left
      · (intro w' hS'; obtain ⟨f1, f2, f3, f4, f5, f6, f7, f8, f9⟩ := KC.out w' hS'; go_simp; try with_reducible rfl)
      simp only [Act.put, List.setIfInBounds_toArray, List.set_cons_zero, List.set_cons_succ]
      refine takeL (i := 2) (v := ?_) rfl (by kernel_rfl) (by kernel_rfl) (by kernel_rfl) (fun _ _ _ h => h) (by rfl) ?_ HS.out ?_
      rotate_left
      · (intro w' hS'; obtain ⟨f1, f2, f3, f4, f5, f6, f7, f8, f9⟩ := KC.out w' hS'; go_simp; try with_reducible rfl)
      simp only [Act.put, List.setIfInBounds_toArray, List.set_cons_zero, List.set_cons_succ]
      refine takeL (i := 3) (v := ?_) rfl (by kernel_rfl) (by kernel_rfl) (by kernel_rfl) (fun _ _ _ h => h) (by rfl) ?_ HS.out ?_
      rotate_left
      · (intro w' hS'; obtain ⟨f1, f2, f3, f4, f5, f6, f7, f8, f9⟩ := KC.out w' hS'; go_simp; try with_reducible rfl)
      simp only [Act.put, List.setIfInBounds_toArray, List.set_cons_zero, List.set_cons_succ]
      refine takeL (i := 4) (v := ?_) rfl (by kernel_rfl) (by kernel_rfl) (by kernel_rfl) (fun _ _ _ h => h) (by rfl) ?_ HS.out ?_
      rotate_left
      · (intro w' hS'; obtain ⟨f1, f2, f3, f4, f5, f6, f7, f8, f9⟩ := KC.out w' hS'; go_simp; try with_reducible rfl)
      simp only [Act.put, List.setIfInBounds_toArray, List.set_cons_zero, List.set_cons_succ]
      refine takeL (i := 5) (v := ?_) rfl (by kernel_rfl) (by kernel_rfl) (by kernel_rfl) (fun _ _ _ h => h) (by rfl) ?_ HS.out ?_
      rotate_left
      · (intro w' hS'; obtain ⟨f1, f2, f3, f4, f5, f6, f7, f8, f9⟩ := KC.out w' hS'; go_simp; try with_reducible rfl)
      simp only [Act.put, List.setIfInBounds_toArray, List.set_cons_zero, List.set_cons_succ]
      refine takeL (i := 6) (v := ?_) rfl (by kernel_rfl) (by kernel_rfl) (by kernel_rfl) (fun _ _ _ h => h) (by rfl) ?_ HS.out ?_
      rotate_left
      · (intro w' hS'; obtain ⟨f1, f2, f3, f4, f5, f6, f7, f8, f9⟩ := KC.out w' hS'; go_simp; try with_reducible rfl)
      simp only [Act.put, List.setIfInBounds_toArray, List.set_cons_zero, List.set_cons_succ]
      refine takeL (i := 7) (v := ?_) rfl (by kernel_rfl) (by kernel_rfl) (by kernel_rfl) (fun _ _ _ h => h) (by rfl) ?_ HS.out ?_
      rotate_left
      · (intro w' hS'; obtain ⟨f1, f2, f3, f4, f5, f6, f7, f8, f9⟩ := KC.out w' hS'; go_simp; try with_reducible rfl)
      simp only [Act.put, List.setIfInBounds_toArray, List.set_cons_zero, List.set_cons_succ]
      refine takeL (i := 8) (v := ?_) rfl (by kernel_rfl) (by kernel_rfl) (by kernel_rfl) (fun _ _ _ h => h) (by rfl) ?_ HS.out ?_
      rotate_left
      · (intro w' hS'; obtain ⟨f1, f2, f3, f4, f5, f6, f7, f8, f9⟩ := KC.out w' hS'; go_simp; try with_reducible rfl)
      simp only [Act.put, List.setIfInBounds_toArray, List.set_cons_zero, List.set_cons_succ]
      refine takeL (i := 9) (v := ?_) rfl (by kernel_rfl) (by kernel_rfl) (by kernel_rfl) (fun _ _ _ h => h) (by rfl) ?_ HS.out ?_
      rotate_left
      · (intro w' hS'; obtain ⟨f1, f2, f3, f4, f5, f6, f7, f8, f9⟩ := KC.out w' hS'; go_simp; try with_reducible rfl)
      simp only [Act.put, List.setIfInBounds_toArray, List.set_cons_zero, List.set_cons_succ]
      refine takeL (i := 10) (v := ?_) rfl (by kernel_rfl) (by kernel_rfl) (by kernel_rfl) (fun _ _ _ h => h) (by rfl) ?_ HS.out ?_
      rotate_left
      · (intro w' hS'; obtain ⟨f1, f2, f3, f4, f5, f6, f7, f8, f9⟩ := KC.out w' hS'; go_simp; try with_reducible rfl)
      simp only [Act.put, List.setIfInBounds_toArray, List.set_cons_zero, List.set_cons_succ]
      refine takeL (i := 11) (v := ?_) rfl (by kernel_rfl) (by kernel_rfl) (by kernel_rfl) (fun _ _ _ h => h) (by rfl) ?_ HS.out ?_
      rotate_left
      · (intro w' hS'; obtain ⟨f1, f2, f3, f4, f5, f6, f7, f8, f9⟩ := KC.out w' hS'; go_simp; try with_reducible rfl)
      simp only [Act.put, List.setIfInBounds_toArray, List.set_cons_zero, List.set_cons_succ]
      refine takeL (i := 12) (v := ?_) rfl (by kernel_rfl) (by kernel_rfl) (by kernel_rfl) (fun _ _ _ h => h) (by rfl) ?_ HS.out ?_
      rotate_left
      · (intro w' hS'; obtain ⟨f1, f2, f3, f4, f5, f6, f7, f8, f9⟩ := KC.out w' hS'; go_simp; try with_reducible rfl)
      simp only [Act.put, List.setIfInBounds_toArray, List.set_cons_zero, List.set_cons_succ]
      refine readyL (rs := [13, 14, 15]) (by kernel_rfl) (by simp) ?_
      refine consL rfl (fun K hK => ?_) (consL rfl (fun K hK => ?_) (consL rfl (fun K hK => ?_) AllReadyH.nil))
      · go_simp
        refine hK.out _ _ ?_ (fun HS2 => ?_)
        · go_grown
        clear hK K
        refine readyL (rs := [14, 15]) (by kernel_rfl) (by simp) ?_
        refine consL rfl (fun K hK => ?_) (consL rfl (fun K hK => ?_) AllReadyH.nil)
        · go_simp
          refine hK.out _ _ ?_ (fun HS2 => ?_)
          · go_grown
          clear hK K
          refine readyL (rs := [15]) (by kernel_rfl) (by simp) ?_
          refine consL rfl (fun K hK => ?_) AllReadyH.nil
          go_simp
          refine hK.out _ _ ?_ (fun HS2 => ?_)
          · go_grown
          clear hK K
          refine readyL (rs := [16]) (by kernel_rfl) (by simp) ?_
          refine consL rfl (fun K hK => ?_) AllReadyH.nil
          go_simp
          refine hK.out _ _ ?_ (fun HS2 => ?_)
          · go_grown
          clear hK K
          refine readyL (rs := [17]) (by kernel_rfl) (by simp) ?_
          refine consL rfl (fun K hK => ?_) AllReadyH.nil
          go_simp
          refine hK.out _ _ ?_ (fun HS2 => ?_)
          · go_grown
          clear hK K
          refine readyL (rs := [18]) (by kernel_rfl) (by simp) ?_
          refine consL rfl (fun K hK => ?_) AllReadyH.nil
          go_simp
          refine hK.out _ _ ?_ (fun HS2 => ?_)
          · go_grown
          clear hK K
          refine doneL (by kernel_rfl) ?_ _
          gi_wp2_with fail
          gi_meet
          case rel =>
            obtain ⟨t0, t1, t2, t3⟩ := three_blocks W (.cells #[.int .i64 (g1 ls pre.length), .int .i64 (g2 ls pre.length)] 32) (.cells #[.int .i64 (g1 gs (b1 N x.1)), .int .i64 (g2 gs (b1 N x.1))] 32) (.cells #[.int .i64 (g1 gs (b2 N x.1)), .int .i64 (g2 gs (b2 N x.1))] 32)
            exact ⟨W.heap.size, W.heap.size + 1, W.heap.size + 2, rfl, rfl, rfl, by omega, by omega, by omega, t0, t1, t2, t3⟩
        · go_simp
          refine hK.out _ _ ?_ (fun HS2 => ?_)
          · go_grown
          clear hK K
          refine readyL (rs := [14]) (by kernel_rfl) (by simp) ?_
          refine consL rfl (fun K hK => ?_) AllReadyH.nil
          go_simp
          refine hK.out _ _ ?_ (fun HS2 => ?_)
          · go_grown
          clear hK K
          refine readyL (rs := [16]) (by kernel_rfl) (by simp) ?_
          refine consL rfl (fun K hK => ?_) AllReadyH.nil
          go_simp
          refine hK.out _ _ ?_ (fun HS2 => ?_)
          · go_grown
          clear hK K
          refine readyL (rs := [17]) (by kernel_rfl) (by simp) ?_
          refine consL rfl (fun K hK => ?_) AllReadyH.nil
          go_simp
          refine hK.out _ _ ?_ (fun HS2 => ?_)
          · go_grown
          clear hK K
          refine readyL (rs := [18]) (by kernel_rfl) (by simp) ?_
          refine consL rfl (fun K hK => ?_) AllReadyH.nil
          go_simp
          refine hK.out _ _ ?_ (fun HS2 => ?_)
          · go_grown
          clear hK K
          refine doneL (by kernel_rfl) ?_ _
          gi_wp2_with fail
          gi_meet
          case rel =>
            obtain ⟨t0, t1, t2, t3⟩ := three_blocks W (.cells #[.int .i64 (g1 ls pre.length), .int .i64 (g2 ls pre.length)] 32) (.cells #[.int .i64 (g1 gs (b2 N x.1)), .int .i64 (g2 gs (b2 N x.1))] 32) (.cells #[.int .i64 (g1 gs (b1 N x.1)), .int .i64 (g2 gs (b1 N x.1))] 32)
            exact ⟨W.heap.size, W.heap.size + 2, W.heap.size + 1, rfl, rfl, rfl, by omega, by omega, by omega, t0, t2, t1, t3⟩
      · go_simp
        refine hK.out _ _ ?_ (fun HS2 => ?_)
        · go_grown
        clear hK K
        refine readyL (rs := [13, 15]) (by kernel_rfl) (by simp) ?_
        refine consL rfl (fun K hK => ?_) (consL rfl (fun K hK => ?_) AllReadyH.nil)
        · go_simp
          refine hK.out _ _ ?_ (fun HS2 => ?_)
          · go_grown
          clear hK K
          refine readyL (rs := [15]) (by kernel_rfl) (by simp) ?_
          refine consL rfl (fun K hK => ?_) AllReadyH.nil
          go_simp
          refine hK.out _ _ ?_ (fun HS2 => ?_)
          · go_grown
          clear hK K
          refine readyL (rs := [16]) (by kernel_rfl) (by simp) ?_
          refine consL rfl (fun K hK => ?_) AllReadyH.nil
          go_simp
          refine hK.out _ _ ?_ (fun HS2 => ?_)
          · go_grown
          clear hK K
          refine readyL (rs := [17]) (by kernel_rfl) (by simp) ?_
          refine consL rfl (fun K hK => ?_) AllReadyH.nil
          go_simp
          refine hK.out _ _ ?_ (fun HS2 => ?_)
          · go_grown
          clear hK K
          refine readyL (rs := [18]) (by kernel_rfl) (by simp) ?_
          refine consL rfl (fun K hK => ?_) AllReadyH.nil
          go_simp
          refine hK.out _ _ ?_ (fun HS2 => ?_)
          · go_grown
          clear hK K
          refine doneL (by kernel_rfl) ?_ _
          gi_wp2_with fail
          gi_meet
          case rel =>
            obtain ⟨t0, t1, t2, t3⟩ := three_blocks W (.cells #[.int .i64 (g1 gs (b1 N x.1)), .int .i64 (g2 gs (b1 N x.1))] 32) (.cells #[.int .i64 (g1 ls pre.length), .int .i64 (g2 ls pre.length)] 32) (.cells #[.int .i64 (g1 gs (b2 N x.1)), .int .i64 (g2 gs (b2 N x.1))] 32)
            exact ⟨W.heap.size + 1, W.heap.size, W.heap.size + 2, rfl, rfl, rfl, by omega, by omega, by omega, t1, t0, t2, t3⟩
        · go_simp
          refine hK.out _ _ ?_ (fun HS2 => ?_)
          · go_grown
          clear hK K
          refine readyL (rs := [13]) (by kernel_rfl) (by simp) ?_
          refine consL rfl (fun K hK => ?_) AllReadyH.nil
          go_simp
          refine hK.out _ _ ?_ (fun HS2 => ?_)
          · go_grown
          clear hK K
          refine readyL (rs := [16]) (by kernel_rfl) (by simp) ?_
          refine consL rfl (fun K hK => ?_) AllReadyH.nil
          go_simp
          refine hK.out _ _ ?_ (fun HS2 => ?_)
          · go_grown
          clear hK K
          refine readyL (rs := [17]) (by kernel_rfl) (by simp) ?_
          refine consL rfl (fun K hK => ?_) AllReadyH.nil
          go_simp
          refine hK.out _ _ ?_ (fun HS2 => ?_)
          · go_grown
          clear hK K
          refine readyL (rs := [18]) (by kernel_rfl) (by simp) ?_
          refine consL rfl (fun K hK => ?_) AllReadyH.nil
          go_simp
          refine hK.out _ _ ?_ (fun HS2 => ?_)
          · go_grown
          clear hK K
          refine doneL (by kernel_rfl) ?_ _
          gi_wp2_with fail
          gi_meet
          case rel =>
            obtain ⟨t0, t1, t2, t3⟩ := three_blocks W (.cells #[.int .i64 (g1 gs (b1 N x.1)), .int .i64 (g2 gs (b1 N x.1))] 32) (.cells #[.int .i64 (g1 gs (b2 N x.1)), .int .i64 (g2 gs (b2 N x.1))] 32) (.cells #[.int .i64 (g1 ls pre.length), .int .i64 (g2 ls pre.length)] 32)
            exact ⟨W.heap.size + 2, W.heap.size, W.heap.size + 1, rfl, rfl, rfl, by omega, by omega, by omega, t2, t0, t1, t3⟩
      · go_simp
        refine hK.out _ _ ?_ (fun HS2 => ?_)
        · go_grown
        clear hK K
        refine readyL (rs := [13, 14]) (by kernel_rfl) (by simp) ?_
        refine consL rfl (fun K hK => ?_) (consL rfl (fun K hK => ?_) AllReadyH.nil)
        · go_simp
          refine hK.out _ _ ?_ (fun HS2 => ?_)
          · go_grown
          clear hK K
          refine readyL (rs := [14]) (by kernel_rfl) (by simp) ?_
          refine consL rfl (fun K hK => ?_) AllReadyH.nil
          go_simp
          refine hK.out _ _ ?_ (fun HS2 => ?_)
          · go_grown
          clear hK K
          refine readyL (rs := [16]) (by kernel_rfl) (by simp) ?_
          refine consL rfl (fun K hK => ?_) AllReadyH.nil
          go_simp
          refine hK.out _ _ ?_ (fun HS2 => ?_)
          · go_grown
          clear hK K
          refine readyL (rs := [17]) (by kernel_rfl) (by simp) ?_
          refine consL rfl (fun K hK => ?_) AllReadyH.nil
          go_simp
          refine hK.out _ _ ?_ (fun HS2 => ?_)
          · go_grown
          clear hK K
          refine readyL (rs := [18]) (by kernel_rfl) (by simp) ?_
          refine consL rfl (fun K hK => ?_) AllReadyH.nil
          go_simp
          refine hK.out _ _ ?_ (fun HS2 => ?_)
          · go_grown
          clear hK K
          refine doneL (by kernel_rfl) ?_ _
          gi_wp2_with fail
          gi_meet
          case rel =>
            obtain ⟨t0, t1, t2, t3⟩ := three_blocks W (.cells #[.int .i64 (g1 gs (b2 N x.1)), .int .i64 (g2 gs (b2 N x.1))] 32) (.cells #[.int .i64 (g1 ls pre.length), .int .i64 (g2 ls pre.length)] 32) (.cells #[.int .i64 (g1 gs (b1 N x.1)), .int .i64 (g2 gs (b1 N x.1))] 32)
            exact ⟨W.heap.size + 1, W.heap.size + 2, W.heap.size, rfl, rfl, rfl, by omega, by omega, by omega, t1, t2, t0, t3⟩
        · go_simp
          refine hK.out _ _ ?_ (fun HS2 => ?_)
          · go_grown
          clear hK K
          refine readyL (rs := [13]) (by kernel_rfl) (by simp) ?_
          refine consL rfl (fun K hK => ?_) AllReadyH.nil
          go_simp
          refine hK.out _ _ ?_ (fun HS2 => ?_)
          · go_grown
          clear hK K
          refine readyL (rs := [16]) (by kernel_rfl) (by simp) ?_
          refine consL rfl (fun K hK => ?_) AllReadyH.nil
          go_simp
          refine hK.out _ _ ?_ (fun HS2 => ?_)
          · go_grown
          clear hK K
          refine readyL (rs := [17]) (by kernel_rfl) (by simp) ?_
          refine consL rfl (fun K hK => ?_) AllReadyH.nil
          go_simp
          refine hK.out _ _ ?_ (fun HS2 => ?_)
          · go_grown
          clear hK K
          refine readyL (rs := [18]) (by kernel_rfl) (by simp) ?_
          refine consL rfl (fun K hK => ?_) AllReadyH.nil
          go_simp
          refine hK.out _ _ ?_ (fun HS2 => ?_)
          · go_grown
          clear hK K
          refine doneL (by kernel_rfl) ?_ _
          gi_wp2_with fail
          gi_meet
          case rel =>
            obtain ⟨t0, t1, t2, t3⟩ := three_blocks W (.cells #[.int .i64 (g1 gs (b2 N x.1)), .int .i64 (g2 gs (b2 N x.1))] 32) (.cells #[.int .i64 (g1 gs (b1 N x.1)), .int .i64 (g2 gs (b1 N x.1))] 32) (.cells #[.int .i64 (g1 ls pre.length), .int .i64 (g2 ls pre.length)] 32)
            exact ⟨W.heap.size + 2, W.heap.size + 1, W.heap.size, rfl, rfl, rfl, by omega, by omega, by omega, t2, t1, t0, t3⟩
    case rest =>
      obtain ⟨y1, y2, y3, rfl, rfl, rfl, l1, l2, l3, t1, t2, t3, hbc⟩ := hcut
      have hvc := hv.belowB hbc
      have hNc := hbN.belowB hbc
      have hrc := own_same hrow (fun q hq => hbc.block q (hrow.lt q hq).2)
      have hBc := hB.trans (hbc.mono hB.size)
      have hLc := hbL.belowB hbc
      have hGc := hbG.belowB hbc
      have hPc := hbP.belowB hbc
      have hQc := hbQ.belowB hbc
      have hbo := hv.lt
      have hBo : w.heap.size ≤ W2.heap.size := by omega
      obtain ⟨z1, z2, z3, z4⟩ := allV_bd (visB_ok vl).2.2 (j := pre.length) (by rw [LL.out]; exact hlt)
      obtain ⟨z5, z6, z7, z8⟩ := allV_bd (gainB_ok vg).2.2 (j := b1 N x.1) (by rw [LG.out]; omega)
      obtain ⟨z9, z10, z11, z12⟩ := allV_bd (gainB_ok vg).2.2 (j := b2 N x.1) (by rw [LG.out]; exact x2N)
      obtain ⟨p1, p2⟩ := mul_bd (x := g1 gs (b1 N x.1)) (y := g1 gs (b2 N x.1)) (B := 99) (C := 99) (by omega) (by omega)
      have p3 := one_le_mul z5 z9
      have q1 : g1 ls pre.length / (g1 gs (b1 N x.1) * g1 gs (b2 N x.1)) ≤ g1 ls pre.length := Int.ediv_le_self _ (by omega)
      have q0 : 0 ≤ g1 ls pre.length / (g1 gs (b1 N x.1) * g1 gs (b2 N x.1)) := Int.ediv_nonneg (by omega) (by omega)
      obtain ⟨r1, r2, _, _, _⟩ := two_cells t1
      obtain ⟨r3, r4, _, _, _⟩ := two_cells t2
      obtain ⟨r5, r6, _, _, _⟩ := two_cells t3
      have cP := hPc.cell
      have fP := hPc.frozen
      have cQ := hQc.cell
      have fQ := hQc.frozen
      have SB := Lib.hid (hPc.set (.slice none 0 0))
      have KB := Lib.hid (keeps_below hbc)
      by_cases hdv : g1 ls pre.length % (g1 gs (b1 N x.1) * g1 gs (b2 N x.1)) = 0
      rotate_left
      · have HX := Lib.hid (DvP.bad_snoc x hdv)
        have B2 := Lib.hid (hBc.setCell (p := ⟨w.heap.size + 2, 0, none⟩) (by simp) (.slice none 0 0))
        have B3 := Lib.hid (B2.out.setCell (p := ⟨w.heap.size + 3, 0, none⟩) (by simp) (.bool false))
        have S3 := Lib.hid ((SB.out.other (show w.heap.size + 2 ≠ w.heap.size + 3 by omega) (.bool false)))
        have S4 := Lib.hid ((hQc.other (show w.heap.size + 3 ≠ w.heap.size + 2 by omega) (.slice none 0 0)).set (.bool false))
        have K3 := Lib.hid ((KB.out.trans (KeepsOthers.setCell wc ⟨w.heap.size + 2, 0, none⟩ (.slice none 0 0))).trans (KeepsOthers.setCell _ ⟨w.heap.size + 3, 0, none⟩ (.bool false)))
        clear t1 t2 t3 hbc hvc hNc hrc hBc hLc hGc hPc hQc
        gi_wp2
        exact ⟨K3.out.from _, ⟨rfl, HX.out⟩, S3.out, S4.out, B3.out⟩
      have HDS := Lib.hid (HDV.out.snoc x hdv)
      have KC8 : Hid (∀ w' : World, (w'.heap[y1]? = some (.cells #[.int .i64 (g1 ls pre.length), .int .i64 (g2 ls pre.length)] 32 (0, 0)) ∧ w'.heap[y2]? = some (.cells #[.int .i64 (g1 gs (b1 N x.1)), .int .i64 (g2 gs (b1 N x.1))] 32 (0, 0)) ∧ w'.heap[y3]? = some (.cells #[.int .i64 (g1 gs (b2 N x.1)), .int .i64 (g2 gs (b2 N x.1))] 32 (0, 0))) →
          w'.cell? ⟨y1, 0, none⟩ = some (.int .i64 (g1 ls pre.length)) ∧ w'.cell? ⟨y1, 1, none⟩ = some (.int .i64 (g2 ls pre.length)) ∧ w'.cell? ⟨y2, 0, none⟩ = some (.int .i64 (g1 gs (b1 N x.1))) ∧ w'.cell? ⟨y2, 1, none⟩ = some (.int .i64 (g2 gs (b1 N x.1))) ∧ w'.cell? ⟨y3, 0, none⟩ = some (.int .i64 (g1 gs (b2 N x.1))) ∧ w'.cell? ⟨y3, 1, none⟩ = some (.int .i64 (g2 gs (b2 N x.1)))) :=
        Lib.hid fun w' h => ⟨(two_cells h.1).1, (two_cells h.1).2.1, (two_cells h.2.1).1, (two_cells h.2.1).2.1, (two_cells h.2.2).1, (two_cells h.2.2).2.1⟩
      have HS8 := Lib.hid (show wc.drew.heap[y1]? = some (.cells #[.int .i64 (g1 ls pre.length), .int .i64 (g2 ls pre.length)] 32 (0, 0)) ∧ wc.drew.heap[y2]? = some (.cells #[.int .i64 (g1 gs (b1 N x.1)), .int .i64 (g2 gs (b1 N x.1))] 32 (0, 0)) ∧ wc.drew.heap[y3]? = some (.cells #[.int .i64 (g1 gs (b2 N x.1)), .int .i64 (g2 gs (b2 N x.1))] 32 (0, 0)) from ⟨t1, t2, t3⟩)
      have lt1 := (two_cells t1).2.2.2.2
      have lt2 := (two_cells t2).2.2.2.2
      have lt3 := (two_cells t3).2.2.2.2
      have HS9 := Lib.hid (show (wc.alloc (.cells #[.int .i64 (g1 ls pre.length / (g1 gs (b1 N x.1) * g1 gs (b2 N x.1))), .int .i64 ((g2 ls pre.length + g2 gs (b1 N x.1) - g2 gs (b2 N x.1)) % 360)] 32)).drew.heap[y1]? = some (.cells #[.int .i64 (g1 ls pre.length), .int .i64 (g2 ls pre.length)] 32 (0, 0)) ∧ (wc.alloc (.cells #[.int .i64 (g1 ls pre.length / (g1 gs (b1 N x.1) * g1 gs (b2 N x.1))), .int .i64 ((g2 ls pre.length + g2 gs (b1 N x.1) - g2 gs (b2 N x.1)) % 360)] 32)).drew.heap[y2]? = some (.cells #[.int .i64 (g1 gs (b1 N x.1)), .int .i64 (g2 gs (b1 N x.1))] 32 (0, 0)) ∧ (wc.alloc (.cells #[.int .i64 (g1 ls pre.length / (g1 gs (b1 N x.1) * g1 gs (b2 N x.1))), .int .i64 ((g2 ls pre.length + g2 gs (b1 N x.1) - g2 gs (b2 N x.1)) % 360)] 32)).drew.heap[y3]? = some (.cells #[.int .i64 (g1 gs (b2 N x.1)), .int .i64 (g2 gs (b2 N x.1))] 32 (0, 0)) from
        ⟨(Below.heap_alloc wc _ y1 lt1).trans t1, (Below.heap_alloc wc _ y2 lt2).trans t2, (Below.heap_alloc wc _ y3 lt3).trans t3⟩)
      have rowlt : ∀ q, (Value.slice Ao pre.length co).ownBlock = some q → q < W.heap.size := fun q hq => (hrow.lt q hq).2
      have KS : Hid (∀ (w1 : World), (wc.alloc (.cells #[.int .i64 (g1 ls pre.length / (g1 gs (b1 N x.1) * g1 gs (b2 N x.1))), .int .i64 ((g2 ls pre.length + g2 gs (b1 N x.1) - g2 gs (b2 N x.1)) % 360)] 32)).drew.grownBy w1 (Value.slice Ao pre.length co).ownBlock → w1.heap[y1]? = some (.cells #[.int .i64 (g1 ls pre.length), .int .i64 (g2 ls pre.length)] 32 (0, 0)) ∧ w1.heap[y2]? = some (.cells #[.int .i64 (g1 gs (b1 N x.1)), .int .i64 (g2 gs (b1 N x.1))] 32 (0, 0)) ∧ w1.heap[y3]? = some (.cells #[.int .i64 (g1 gs (b2 N x.1)), .int .i64 (g2 gs (b2 N x.1))] 32 (0, 0))) :=
        Lib.hid fun w1 hg => ⟨(hg.block y1 (by show _ < (wc.heap.push _).size; simp; omega) (fun e => by have := rowlt y1 e.symm; omega)).trans HS9.out.1, (hg.block y2 (by show _ < (wc.heap.push _).size; simp; omega) (fun e => by have := rowlt y2 e.symm; omega)).trans HS9.out.2.1, (hg.block y3 (by show _ < (wc.heap.push _).size; simp; omega) (fun e => by have := rowlt y3 e.symm; omega)).trans HS9.out.2.2⟩
      have KT : Hid (∀ (w1 : World) (u : Value), (w1.heap[y1]? = some (.cells #[.int .i64 (g1 ls pre.length), .int .i64 (g2 ls pre.length)] 32 (0, 0)) ∧ w1.heap[y2]? = some (.cells #[.int .i64 (g1 gs (b1 N x.1)), .int .i64 (g2 gs (b1 N x.1))] 32 (0, 0)) ∧ w1.heap[y3]? = some (.cells #[.int .i64 (g1 gs (b2 N x.1)), .int .i64 (g2 gs (b2 N x.1))] 32 (0, 0))) → (w1.setCell ⟨W2.heap.size, 0, none⟩ u).heap[y1]? = some (.cells #[.int .i64 (g1 ls pre.length), .int .i64 (g2 ls pre.length)] 32 (0, 0)) ∧ (w1.setCell ⟨W2.heap.size, 0, none⟩ u).heap[y2]? = some (.cells #[.int .i64 (g1 gs (b1 N x.1)), .int .i64 (g2 gs (b1 N x.1))] 32 (0, 0)) ∧ (w1.setCell ⟨W2.heap.size, 0, none⟩ u).heap[y3]? = some (.cells #[.int .i64 (g1 gs (b2 N x.1)), .int .i64 (g2 gs (b2 N x.1))] 32 (0, 0))) :=
        Lib.hid fun w1 u h => ⟨(Below.heap_setCell w1 _ u y1 (by show y1 ≠ W2.heap.size; omega)).trans h.1, (Below.heap_setCell w1 _ u y2 (by show y2 ≠ W2.heap.size; omega)).trans h.2.1, (Below.heap_setCell w1 _ u y3 (by show y3 ≠ W2.heap.size; omega)).trans h.2.2⟩
      have HR := Lib.hid (own_da hrc (.cells #[.int .i64 (g1 ls pre.length / (g1 gs (b1 N x.1) * g1 gs (b2 N x.1))), .int .i64 ((g2 ls pre.length + g2 gs (b1 N x.1) - g2 gs (b2 N x.1)) % 360)] 32))
      have m1 := Lib.hid (show pre.length + 1 ≤ maxLen by simp [maxLen]; omega)
      have m2 := Lib.hid (show (pre.length + 1) * 16 ≤ 140737488355328 by omega)
      have m3 := Lib.hid (base_da (o := .cells #[.int .i64 (g1 ls pre.length / (g1 gs (b1 N x.1) * g1 gs (b2 N x.1))), .int .i64 ((g2 ls pre.length + g2 gs (b1 N x.1) - g2 gs (b2 N x.1)) % 360)] 32) hBc.size)
      have FIN : Hid (∀ (w1 : World) (g cap : Nat), Boxed w1 W2.heap.size 23 (.slice Ao pre.length co) → Boxed (w1.setCell ⟨W2.heap.size, 0, none⟩ (.slice (some ⟨g, 0, none⟩) (pre.length + 1) cap)) W2.heap.size 23 (.slice (some ⟨g, 0, none⟩) (pre.length + 1) cap) →
          (w1.setCell ⟨W2.heap.size, 0, none⟩ (.slice (some ⟨g, 0, none⟩) (pre.length + 1) cap)).ownsRow w.heap.size 32 2 (.slice (some ⟨g, 0, none⟩) (pre.length + 1) cap) (pre.length + 1) (pairs (outL (rmE ls gs N) pre) ++ [.int .i64 (g1 ls pre.length / (g1 gs (b1 N x.1) * g1 gs (b2 N x.1))), .int .i64 ((g2 ls pre.length + g2 gs (b1 N x.1) - g2 gs (b2 N x.1)) % 360)]) → KeepsOthers wc (w1.setCell ⟨W2.heap.size, 0, none⟩ (.slice (some ⟨g, 0, none⟩) (pre.length + 1) cap)) → Below w.heap.size wc (w1.setCell ⟨W2.heap.size, 0, none⟩ (.slice (some ⟨g, 0, none⟩) (pre.length + 1) cap)) → (wc.alloc (.cells #[.int .i64 (g1 ls pre.length / (g1 gs (b1 N x.1) * g1 gs (b2 N x.1))), .int .i64 ((g2 ls pre.length + g2 gs (b1 N x.1) - g2 gs (b2 N x.1)) % 360)] 32)).drew.grownBy w1 (Value.slice Ao pre.length co).ownBlock →
          KeepsFrom W3.heap.size W (w1.setCell ⟨W2.heap.size, 0, none⟩ (.slice (some ⟨g, 0, none⟩) (pre.length + 1) cap)) ∧ KpB (W2.heap.size + 1) W (w1.setCell ⟨W2.heap.size, 0, none⟩ (.slice (some ⟨g, 0, none⟩) (pre.length + 1) cap)) ∧ ((∃ v, Boxed (w1.setCell ⟨W2.heap.size, 0, none⟩ (.slice (some ⟨g, 0, none⟩) (pre.length + 1) cap)) W2.heap.size 23 v ∧ (w1.setCell ⟨W2.heap.size, 0, none⟩ (.slice (some ⟨g, 0, none⟩) (pre.length + 1) cap)).ownsRow w.heap.size 32 2 v (pre ++ [x]).length (pairs (outL (rmE ls gs N) (pre ++ [x]))) ∧ DvP ls gs (pre ++ [x])) ∧ Boxed (w1.setCell ⟨W2.heap.size, 0, none⟩ (.slice (some ⟨g, 0, none⟩) (pre.length + 1) cap)) w.heap.size 23 (.slice (some ⟨qa, oa, none⟩) ls.length c) ∧ Boxed (w1.setCell ⟨W2.heap.size, 0, none⟩ (.slice (some ⟨g, 0, none⟩) (pre.length + 1) cap)) (w.heap.size + 1) 23 (.slice (some ⟨qb, ob, none⟩) gs.length d) ∧ Boxed (w1.setCell ⟨W2.heap.size, 0, none⟩ (.slice (some ⟨g, 0, none⟩) (pre.length + 1) cap)) (W2.heap.size + 1) 3 (.int .i64 (N : Int)) ∧ Below w.heap.size w (w1.setCell ⟨W2.heap.size, 0, none⟩ (.slice (some ⟨g, 0, none⟩) (pre.length + 1) cap)) ∧ (∃ p, Boxed (w1.setCell ⟨W2.heap.size, 0, none⟩ (.slice (some ⟨g, 0, none⟩) (pre.length + 1) cap)) (w.heap.size + 2) 23 p) ∧ ∃ q, Boxed (w1.setCell ⟨W2.heap.size, 0, none⟩ (.slice (some ⟨g, 0, none⟩) (pre.length + 1) cap)) (w.heap.size + 3) 4 q)) := Lib.hid (fun w1 g cap hv1 hv2 hr2 hk2 hb2 hg => by
        have keepB : ∀ (b : Nat) (t : TypeId) (u : Value), Boxed wc b t u → t ≠ 32 → b ≠ W2.heap.size → Boxed (w1.setCell ⟨W2.heap.size, 0, none⟩ (.slice (some ⟨g, 0, none⟩) (pre.length + 1) cap)) b t u := fun b t u hbx hne hnb =>
          (Below.heap_setCell w1 _ _ b (by show b ≠ W2.heap.size; exact hnb)).trans ((hbx.alloc _).kept (undrew hg) (hbx.not_row hne hrc))
        have kN := keepB _ _ _ hNc (by decide) (by omega)
        refine ⟨((keeps_below hbc).trans hk2).from _, Eq.trans kN hbN.symm, ⟨_, hv2, ?_, HDS.out⟩, keepB _ _ _ hLc (by decide) (by omega), keepB _ _ _ hGc (by decide) (by omega), kN, hBc.trans hb2, ⟨_, keepB _ _ _ hPc (by decide) (by omega)⟩, ⟨_, keepB _ _ _ hQc (by decide) (by omega)⟩⟩
        rw [outL_snoc, List.length_append]
        exact hr2)
      have cO := hvc.cell
      have fO := hvc.frozen
      have cO2 : (wc.alloc (.cells #[.int .i64 (g1 ls pre.length / (g1 gs (b1 N x.1) * g1 gs (b2 N x.1))), .int .i64 ((g2 ls pre.length + g2 gs (b1 N x.1) - g2 gs (b2 N x.1)) % 360)] 32)).cell? ⟨W2.heap.size, 0, none⟩ = some (.slice Ao pre.length co) := (hvc.alloc _).cell
      gi_upto_region 10 with fail
      have e1 : IntKind.i64.wrap (g1 gs (b1 N x.1) * g1 gs (b2 N x.1)) = g1 gs (b1 N x.1) * g1 gs (b2 N x.1) := IntWalk.i64_in _ (by omega)
      have e0 : (g1 gs (b1 N x.1) * g1 gs (b2 N x.1) = 0) = False := eq_false (by omega)
      have e5 : (g1 ls pre.length).tdiv (g1 gs (b1 N x.1) * g1 gs (b2 N x.1)) = g1 ls pre.length / (g1 gs (b1 N x.1) * g1 gs (b2 N x.1)) := Int.tdiv_eq_ediv_of_nonneg (by omega)
      have e2 : IntKind.i64.wrap (g1 ls pre.length / (g1 gs (b1 N x.1) * g1 gs (b2 N x.1))) = (g1 ls pre.length / (g1 gs (b1 N x.1) * g1 gs (b2 N x.1))) := IntWalk.i64_in _ (by clear e1 e5; omega)
      have e3 : IntKind.i64.wrap (g2 ls pre.length + g2 gs (b1 N x.1)) = g2 ls pre.length + g2 gs (b1 N x.1) := IntWalk.i64_in _ (by clear e1 e2 e5; omega)
      have e4 : IntKind.i64.wrap (g2 ls pre.length + g2 gs (b1 N x.1) - g2 gs (b2 N x.1)) = g2 ls pre.length + g2 gs (b1 N x.1) - g2 gs (b2 N x.1) := IntWalk.i64_in _ (by clear e1 e2 e3 e5; omega)
      clear t1 t2 t3 hbc
      refine round_held (S := fun w' => w'.heap[y1]? = some (.cells #[.int .i64 (g1 ls pre.length), .int .i64 (g2 ls pre.length)] 32 (0, 0)) ∧ w'.heap[y2]? = some (.cells #[.int .i64 (g1 gs (b1 N x.1)), .int .i64 (g2 gs (b1 N x.1))] 32 (0, 0)) ∧ w'.heap[y3]? = some (.cells #[.int .i64 (g1 gs (b2 N x.1)), .int .i64 (g2 gs (b2 N x.1))] 32 (0, 0))) (by kernel_rfl) (by kernel_rfl) (by rintro ⟨_, _, x⟩; exact x) HS8.out ?_
      refine takeL (i := 1) (v := ?_) rfl (by kernel_rfl) (by kernel_rfl) (by kernel_rfl) (fun _ _ _ h => h) (by rfl) ?_ HS8.out ?_
      rotate_left
      · (intro w' hS'; obtain ⟨f1, f2, f3, f4, f5, f6⟩ := KC8.out w' hS'; go_simp; try with_reducible rfl)
      simp only [Act.put, List.setIfInBounds_toArray, List.set_cons_zero, List.set_cons_succ]
      refine takeL (i := 2) (v := ?_) rfl (by kernel_rfl) (by kernel_rfl) (by kernel_rfl) (fun _ _ _ h => h) (by rfl) ?_ HS8.out ?_
      rotate_left
      · (intro w' hS'; obtain ⟨f1, f2, f3, f4, f5, f6⟩ := KC8.out w' hS'; go_simp; try with_reducible rfl)
      simp only [Act.put, List.setIfInBounds_toArray, List.set_cons_zero, List.set_cons_succ]
      refine takeL (i := 3) (v := ?_) rfl (by kernel_rfl) (by kernel_rfl) (by kernel_rfl) (fun _ _ _ h => h) (by rfl) ?_ HS8.out ?_
      rotate_left
      · (intro w' hS'; obtain ⟨f1, f2, f3, f4, f5, f6⟩ := KC8.out w' hS'; go_simp; try with_reducible rfl)
      simp only [Act.put, List.setIfInBounds_toArray, List.set_cons_zero, List.set_cons_succ]
      refine takeL (i := 4) (v := ?_) rfl (by kernel_rfl) (by kernel_rfl) (by kernel_rfl) (fun _ _ _ h => h) (by rfl) ?_ HS8.out ?_
      rotate_left
      · (intro w' hS'; obtain ⟨f1, f2, f3, f4, f5, f6⟩ := KC8.out w' hS'; go_simp; try with_reducible rfl)
      simp only [Act.put, List.setIfInBounds_toArray, List.set_cons_zero, List.set_cons_succ]
      refine takeL (i := 5) (v := ?_) rfl (by kernel_rfl) (by kernel_rfl) (by kernel_rfl) (fun _ _ _ h => h) (by rfl) ?_ HS8.out ?_
      rotate_left
      · (intro w' hS'; obtain ⟨f1, f2, f3, f4, f5, f6⟩ := KC8.out w' hS'; go_simp; try with_reducible rfl)
      simp only [Act.put, List.setIfInBounds_toArray, List.set_cons_zero, List.set_cons_succ]
      refine takeL (i := 6) (v := ?_) rfl (by kernel_rfl) (by kernel_rfl) (by kernel_rfl) (fun _ _ _ h => h) (by rfl) ?_ HS8.out ?_
      rotate_left
      · (intro w' hS'; obtain ⟨f1, f2, f3, f4, f5, f6⟩ := KC8.out w' hS'; go_simp; try with_reducible rfl)
      simp only [Act.put, List.setIfInBounds_toArray, List.set_cons_zero, List.set_cons_succ]
      refine takeL (i := 7) (v := ?_) rfl (by kernel_rfl) (by kernel_rfl) (by kernel_rfl) (fun _ _ _ h => h) (by rfl) ?_ HS8.out ?_
      rotate_left
      · (intro w' hS'; obtain ⟨f1, f2, f3, f4, f5, f6⟩ := KC8.out w' hS'; go_simp; try with_reducible rfl)
      simp only [Act.put, List.setIfInBounds_toArray, List.set_cons_zero, List.set_cons_succ]
      refine takeL (i := 8) (v := ?_) rfl (by kernel_rfl) (by kernel_rfl) (by kernel_rfl) (fun _ _ _ h => h) (by rfl) ?_ HS8.out ?_
      rotate_left
      · (intro w' hS'; obtain ⟨f1, f2, f3, f4, f5, f6⟩ := KC8.out w' hS'; go_simp; try with_reducible rfl)
      simp only [Act.put, List.setIfInBounds_toArray, List.set_cons_zero, List.set_cons_succ]
      refine takeL (i := 9) (v := ?_) rfl (by kernel_rfl) (by kernel_rfl) (by kernel_rfl) (fun _ _ _ h => h) (by rfl) ?_ HS8.out ?_
      rotate_left
      · (intro w' hS'; obtain ⟨f1, f2, f3, f4, f5, f6⟩ := KC8.out w' hS'; go_simp; try with_reducible rfl)
      simp only [Act.put, List.setIfInBounds_toArray, List.set_cons_zero, List.set_cons_succ]
      refine takeL (i := 10) (v := ?_) rfl (by kernel_rfl) (by kernel_rfl) (by kernel_rfl) (fun _ _ _ h => h) (by rfl) ?_ HS8.out ?_
      rotate_left
      · (intro w' hS'; obtain ⟨f1, f2, f3, f4, f5, f6⟩ := KC8.out w' hS'; go_simp; try with_reducible rfl)
      simp only [Act.put, List.setIfInBounds_toArray, List.set_cons_zero, List.set_cons_succ]
      refine takeL (i := 11) (v := ?_) rfl (by kernel_rfl) (by kernel_rfl) (by kernel_rfl) (fun _ _ _ h => h) (by rfl) ?_ HS8.out ?_
      rotate_left
      · (intro w' hS'; obtain ⟨f1, f2, f3, f4, f5, f6⟩ := KC8.out w' hS'; go_simp; try with_reducible rfl)
      simp only [Act.put, List.setIfInBounds_toArray, List.set_cons_zero, List.set_cons_succ]
      refine takeL (i := 12) (v := ?_) rfl (by kernel_rfl) (by kernel_rfl) (by kernel_rfl) (fun _ _ _ h => h) (by rfl) ?_ HS8.out ?_
      rotate_left
      · (intro w' hS'; obtain ⟨f1, f2, f3, f4, f5, f6⟩ := KC8.out w' hS'; go_simp; try with_reducible rfl)
      simp only [Act.put, List.setIfInBounds_toArray, List.set_cons_zero, List.set_cons_succ]
      refine takeL (i := 13) (v := ?_) rfl (by kernel_rfl) (by kernel_rfl) (by kernel_rfl) (fun _ _ _ h => h) (by rfl) ?_ HS8.out ?_
      rotate_left
      · (intro w' hS'; obtain ⟨f1, f2, f3, f4, f5, f6⟩ := KC8.out w' hS'; go_simp; try with_reducible rfl)
      simp only [Act.put, List.setIfInBounds_toArray, List.set_cons_zero, List.set_cons_succ]
      refine takeL (i := 14) (v := ?_) rfl (by kernel_rfl) (by kernel_rfl) (by kernel_rfl) (fun _ _ _ h => h) (by rfl) ?_ HS8.out ?_
      rotate_left
      · (intro w' hS'; obtain ⟨f1, f2, f3, f4, f5, f6⟩ := KC8.out w' hS'; go_simp; try with_reducible rfl)
      simp only [Act.put, List.setIfInBounds_toArray, List.set_cons_zero, List.set_cons_succ]
      refine takeL (i := 15) (v := ?_) rfl (by kernel_rfl) (by kernel_rfl) (by kernel_rfl) (fun _ _ _ h => h) (by rfl) ?_ HS8.out ?_
      rotate_left
      · (intro w' hS'; obtain ⟨f1, f2, f3, f4, f5, f6⟩ := KC8.out w' hS'; go_simp; try with_reducible rfl)
      simp only [Act.put, List.setIfInBounds_toArray, List.set_cons_zero, List.set_cons_succ]
      refine takeL (i := 16) (v := ?_) rfl (by kernel_rfl) (by kernel_rfl) (by kernel_rfl) (fun _ _ _ h => h) (by rfl) ?_ HS8.out ?_
      rotate_left
      · (intro w' hS'; obtain ⟨f1, f2, f3, f4, f5, f6⟩ := KC8.out w' hS'; go_simp; try with_reducible rfl)
      simp only [Act.put, List.setIfInBounds_toArray, List.set_cons_zero, List.set_cons_succ]
      refine readyL (rs := [0, 17]) (by kernel_rfl) (by simp) ?_
      refine consL rfl (fun K hK => ?_) (consL rfl (fun K hK => ?_) AllReadyH.nil)
      · go_simp
        refine hK.out _ _ ?_ (fun HS2 => ?_)
        · first | exact HS8.out | exact HS9.out
        clear hK K
        refine readyL (rs := [17]) (by kernel_rfl) (by simp) ?_
        refine consL rfl (fun K hK => ?_) AllReadyH.nil
        go_simp
        go_at_call 24
        refine (PhaseOf_any _ _).mono ?_; rintro e w' ⟨rfl, rfl⟩
        go_simp
        refine hK.out _ _ ?_ (fun HS2 => ?_)
        · first | exact HS8.out | exact HS9.out
        clear hK K
        refine takeL (i := 18) (v := ?_) rfl (by kernel_rfl) (by kernel_rfl) (by kernel_rfl) (fun _ _ _ h => h) (by rfl) ?_ HS8.out ?_
        rotate_left
        · (intro w' hS'; obtain ⟨f1, f2, f3, f4, f5, f6⟩ := KC8.out w' hS'; go_simp; try with_reducible rfl)
        simp only [Act.put, List.setIfInBounds_toArray, List.set_cons_zero, List.set_cons_succ]
        refine readyL (rs := [19]) (by kernel_rfl) (by simp) ?_
        refine consL rfl (fun K hK => ?_) AllReadyH.nil
        go_simp
        refine hK.out _ _ ?_ (fun HS2 => ?_)
        · exact HS9.out
        clear hK K
        refine readyL (rs := [20]) (by kernel_rfl) (by simp) ?_
        refine consL rfl (fun K hK => ?_) AllReadyH.nil
        refine step_append_lies _ rfl (.tmp 50) (.tmp 69) 23 rfl w.heap.size 32 i0 (.agg #[.int .i64 0, .int .i64 0]) 2 16 Try.underlying23 hi hz0 hz1 hz2 rfl (by decide) _ pre.length (pairs (outL (rmE ls gs N) pre)) (by simp [Act.eval]) HR.out ⟨wc.heap.size, 0, none⟩ 1 1 [.int .i64 (g1 ls pre.length / (g1 gs (b1 N x.1) * g1 gs (b2 N x.1))), .int .i64 ((g2 ls pre.length + g2 gs (b1 N x.1) - g2 gs (b2 N x.1)) % 360)] (by simp [Act.eval]) rfl (news_da2 _ _ _ _) (one2 _ _) (by decide) m1.out m2.out m3.out _ rfl ?_
        intro g cap w1 hown1 hgrow hat hlt1
        obtain ⟨hv1, hv2, hr2, hk2, hb2⟩ := hvc.appended (by decide) hrc hBc.size hBo hown1 (undrew hgrow)
        have hc1 := hv1.cell
        have hf1 := hv1.frozen
        have hS1 := KS.out _ hgrow
        refine hK.out _ _ ?_ (fun HS2 => ?_)
        · exact hS1
        clear hK K
        refine readyL (rs := [21]) (by kernel_rfl) (by simp) ?_
        refine consL rfl (fun K hK => ?_) AllReadyH.nil
        go_simp
        refine hK.out _ _ ?_ (fun HS2 => ?_)
        · exact KT.out _ _ hS1
        clear hK K
        refine doneL (by kernel_rfl) ?_ _
        clear hS1 hc1 hf1
        gi_wp2
        have H := FIN.out _ _ _ hv1 hv2 hr2 hk2 hb2 hgrow
        exact H
      · go_simp
        go_at_call 24
        refine (PhaseOf_any _ _).mono ?_; rintro e w' ⟨rfl, rfl⟩
        go_simp
        refine hK.out _ _ ?_ (fun HS2 => ?_)
        · first | exact HS8.out | exact HS9.out
        clear hK K
        refine takeL (i := 18) (v := ?_) rfl (by kernel_rfl) (by kernel_rfl) (by kernel_rfl) (fun _ _ _ h => h) (by rfl) ?_ HS8.out ?_
        rotate_left
        · (intro w' hS'; obtain ⟨f1, f2, f3, f4, f5, f6⟩ := KC8.out w' hS'; go_simp; try with_reducible rfl)
        simp only [Act.put, List.setIfInBounds_toArray, List.set_cons_zero, List.set_cons_succ]
        refine readyL (rs := [0, 19]) (by kernel_rfl) (by simp) ?_
        refine consL rfl (fun K hK => ?_) (consL rfl (fun K hK => ?_) AllReadyH.nil)
        · go_simp
          refine hK.out _ _ ?_ (fun HS2 => ?_)
          · first | exact HS8.out | exact HS9.out
          clear hK K
          refine readyL (rs := [19]) (by kernel_rfl) (by simp) ?_
          refine consL rfl (fun K hK => ?_) AllReadyH.nil
          go_simp
          refine hK.out _ _ ?_ (fun HS2 => ?_)
          · exact HS9.out
          clear hK K
          refine readyL (rs := [20]) (by kernel_rfl) (by simp) ?_
          refine consL rfl (fun K hK => ?_) AllReadyH.nil
          refine step_append_lies _ rfl (.tmp 50) (.tmp 69) 23 rfl w.heap.size 32 i0 (.agg #[.int .i64 0, .int .i64 0]) 2 16 Try.underlying23 hi hz0 hz1 hz2 rfl (by decide) _ pre.length (pairs (outL (rmE ls gs N) pre)) (by simp [Act.eval]) HR.out ⟨wc.heap.size, 0, none⟩ 1 1 [.int .i64 (g1 ls pre.length / (g1 gs (b1 N x.1) * g1 gs (b2 N x.1))), .int .i64 ((g2 ls pre.length + g2 gs (b1 N x.1) - g2 gs (b2 N x.1)) % 360)] (by simp [Act.eval]) rfl (news_da2 _ _ _ _) (one2 _ _) (by decide) m1.out m2.out m3.out _ rfl ?_
          intro g cap w1 hown1 hgrow hat hlt1
          obtain ⟨hv1, hv2, hr2, hk2, hb2⟩ := hvc.appended (by decide) hrc hBc.size hBo hown1 (undrew hgrow)
          have hc1 := hv1.cell
          have hf1 := hv1.frozen
          have hS1 := KS.out _ hgrow
          refine hK.out _ _ ?_ (fun HS2 => ?_)
          · exact hS1
          clear hK K
          refine readyL (rs := [21]) (by kernel_rfl) (by simp) ?_
          refine consL rfl (fun K hK => ?_) AllReadyH.nil
          go_simp
          refine hK.out _ _ ?_ (fun HS2 => ?_)
          · exact KT.out _ _ hS1
          clear hK K
          refine doneL (by kernel_rfl) ?_ _
          clear hS1 hc1 hf1
          gi_wp2
          have H := FIN.out _ _ _ hv1 hv2 hr2 hk2 hb2 hgrow
          exact H
        · go_simp
          refine hK.out _ _ ?_ (fun HS2 => ?_)
          · exact HS9.out
          clear hK K
          refine readyL (rs := [0]) (by kernel_rfl) (by simp) ?_
          refine consL rfl (fun K hK => ?_) AllReadyH.nil
          go_simp
          refine hK.out _ _ ?_ (fun HS2 => ?_)
          · first | exact HS8.out | exact HS9.out
          clear hK K
          refine readyL (rs := [20]) (by kernel_rfl) (by simp) ?_
          refine consL rfl (fun K hK => ?_) AllReadyH.nil
          refine step_append_lies _ rfl (.tmp 50) (.tmp 69) 23 rfl w.heap.size 32 i0 (.agg #[.int .i64 0, .int .i64 0]) 2 16 Try.underlying23 hi hz0 hz1 hz2 rfl (by decide) _ pre.length (pairs (outL (rmE ls gs N) pre)) (by simp [Act.eval]) HR.out ⟨wc.heap.size, 0, none⟩ 1 1 [.int .i64 (g1 ls pre.length / (g1 gs (b1 N x.1) * g1 gs (b2 N x.1))), .int .i64 ((g2 ls pre.length + g2 gs (b1 N x.1) - g2 gs (b2 N x.1)) % 360)] (by simp [Act.eval]) rfl (news_da2 _ _ _ _) (one2 _ _) (by decide) m1.out m2.out m3.out _ rfl ?_
          intro g cap w1 hown1 hgrow hat hlt1
          obtain ⟨hv1, hv2, hr2, hk2, hb2⟩ := hvc.appended (by decide) hrc hBc.size hBo hown1 (undrew hgrow)
          have hc1 := hv1.cell
          have hf1 := hv1.frozen
          have hS1 := KS.out _ hgrow
          refine hK.out _ _ ?_ (fun HS2 => ?_)
          · exact hS1
          clear hK K
          refine readyL (rs := [21]) (by kernel_rfl) (by simp) ?_
          refine consL rfl (fun K hK => ?_) AllReadyH.nil
          go_simp
          refine hK.out _ _ ?_ (fun HS2 => ?_)
          · exact KT.out _ _ hS1
          clear hK K
          refine doneL (by kernel_rfl) ?_ _
          clear hS1 hc1 hf1
          gi_wp2
          have H := FIN.out _ _ _ hv1 hv2 hr2 hk2 hb2 hgrow
          exact H
  case done =>
    rintro D ys W hD hall ⟨⟨v, hv, hrow, hdv⟩, hbL, hbG, hbN, hB, ⟨vp, hbP⟩, ⟨vq, hbQ⟩⟩ hK
    have hr := DvP.all hall hdv
    clear hdv
    rw [outL_all _ hall] at hrow
    rw [hall.2] at hrow
    obtain ⟨Ao, co, rfl, hco, hcm⟩ := own_shape hrow
    have hc := hv.cell
    have cP := hbP.cell
    have fP := hbP.frozen
    have cQ := hbQ.cell
    have fQ := hbQ.frozen
    have HF := Lib.hid (show gainRemove (N : Int) ls gs = (upto (fun p => rmE ls gs N p p) (nb N), true) by simp [gainRemove, vl, vg, hr])
    clear hr
    have B2 := hB.setCell (p := ⟨w.heap.size + 2, 0, none⟩) (by simp) (.slice Ao (nb N) co)
    have B3 := Lib.hid (B2.setCell (p := ⟨w.heap.size + 3, 0, none⟩) (by simp) (.bool true))
    have S3 := Lib.hid ((hbP.set (.slice Ao (nb N) co)).other (show w.heap.size + 2 ≠ w.heap.size + 3 by omega) (.bool true))
    have S4 := Lib.hid ((hbQ.other (show w.heap.size + 3 ≠ w.heap.size + 2 by omega) (.slice Ao (nb N) co)).set (.bool true))
    have HK := Lib.hid ((Below.heap_setCell _ ⟨w.heap.size + 3, 0, none⟩ (.bool true) D (by simp; omega)).trans ((Below.heap_setCell W ⟨w.heap.size + 2, 0, none⟩ (.slice Ao (nb N) co) D (by simp; omega)).trans hK))
    have R2 := Lib.hid (own_same (w' := (W.setCell ⟨w.heap.size + 2, 0, none⟩ (.slice Ao (nb N) co)).setCell ⟨w.heap.size + 3, 0, none⟩ (.bool true)) hrow (fun q hq => by
      have n1 := fun e => hbP.not_row (by decide) hrow (hq.symm ▸ e)
      have n2 := fun e => hbQ.not_row (by decide) hrow (hq.symm ▸ e)
      rw [Below.heap_setCell _ _ _ q (fun e => n2 (by rw [e])), Below.heap_setCell _ _ _ q (fun e => n1 (by rw [e]))]))
    clear B2
    gi_wp2
    refine ⟨by simp, .inl ⟨_, _, rfl, run_takeDeferred HK.out, ⟨_, results_cell2 rfl _ _ _ _ _ _ rfl rfl (load_slice (put_box S3.out (by omega))) (load_bool (put_box S4.out (by omega))), ?_⟩⟩⟩
    rw [HF.out]
    exact ⟨Ao, co, by simp, by simpa using hco, Ow.of_own (own_putD HK.out R2.out), B3.out.trans (belowK_b (w := w) (Nat.le_refl _) _ D _ _ (by omega) HK.out rfl rfl)⟩
  case stop =>
    rintro D c pre W hD hin ⟨⟨rfl, hbad⟩, hbP, hbQ, hB⟩ hK
    have HF := Lib.hid (show gainRemove (N : Int) ls gs = ([], false) by simp [gainRemove, DvP.bad hin hbad])
    gi_wp2
    refine ⟨by simp, .inl ⟨_, _, rfl, run_takeDeferred hK, ⟨_, results_cell2 rfl _ _ _ _ _ _ rfl rfl (load_slice (put_box hbP (by omega))) (load_bool (put_box hbQ (by omega))), ?_⟩⟩⟩
    rw [HF.out]
    exact RetG.none_ _ _ (hB.trans (belowK_b (w := w) (Nat.le_refl _) _ D _ _ (by omega) hK rfl rfl))
end Go.Proofs.Ytpdekpeknnlfmaa
