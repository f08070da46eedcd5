/-
  Contract of the program's CloseVis.
-/
import Derived.Test.YtopneihamefohaaCvisA
import Derived.OwnWalkIn
namespace Go.Proofs.Ytopneihamefohaa
set_option linter.unusedVariables false
open Go.RowKit Go.Shelf
attribute [local go_sem] Oper.semAt_some

theorem baseB_idx {N : Nat} (n3 : 3 ≤ N) (n7 : N ≤ 7) {p : Nat} (hp : p < nb N) (h : 0 < b1 N p) : N - 1 ≤ p ∧ p - (N - 1) < nb N - (N - 1) := by
  obtain ⟨h1, h2, h3⟩ := bs_at n7 hp
  have := cv_pos ⟨N, by omega⟩ ⟨b1 N p, by omega⟩ ⟨b2 N p, by omega⟩ h h1 h2
  simp only [h3] at this
  omega
theorem baseB_zero {N : Nat} (n7 : N ≤ 7) {p : Nat} (hp : p < nb N) (h : b1 N p = 0) : p < N - 1 := by
  obtain ⟨h1, h2, h3⟩ := bs_at n7 hp
  rw [h] at h1 h3
  have := cv_zero ⟨N, by omega⟩ ⟨b2 N p, by omega⟩ h1 h2
  simp only [h3] at this
  exact this
theorem InOrder.all_nb {N : Nat} {xs : List (Bx N)} (h : AllB xs) : xs.length = nb N := h.2
/-- baseVis in the making -/
structure CvSt (w W : World) (N : Nat) (F v : Value) (k : Nat) (ps : List (Int × Int)) : Prop where
  n : Boxed W w.heap.size 3 (.int .i64 (N : Int))
  x : Boxed W (w.heap.size + 1) 28 F
  o : Boxed W (w.heap.size + 2) 47 v
  r : W.ownsRow w.heap.size 44 2 v k (pairs ps)
  b : Below w.heap.size w W
theorem CvSt.keep {w W W' : World} {N : Nat} {F v : Value} {k : Nat} {ps : List (Int × Int)} (h : CvSt w W N F v k ps) (hb : Below W.heap.size W W') : CvSt w W' N F v k ps :=
  ⟨box_bel2 h.n hb, box_bel2 h.x hb, box_bel2 h.o hb, own_same h.r (fun q hq => hb.block q (h.r.lt q hq).2), h.b.trans (hb.mono h.b.size)⟩
theorem CvSt.own {β : Type} {B : Nat} {w : World} {N : Nat} {F : Value} {v : β → Value} {k : β → Nat} {ps : β → List (Int × Int)} (hB : w.heap.size ≤ B) : OwnFrom B (fun (s : β) W => CvSt w W N F (v s) (k s) (ps s)) := fun s X Y row h hg hr => by
  have bx : ∀ {b : Nat} {t : TypeId} {u : Value}, Boxed X b t u → Boxed Y b t u := fun {b t u} hx => boxed_own b t (fun (_ : β) => u) s X Y row hx hg (fun r e => (hr r e).2)
  refine ⟨bx h.n, bx h.x, bx h.o, h.r.kept hg ?_, (show OwnFrom B (fun (_ : β) W => Below w.heap.size w W) from ownFrom_below (Nat.le_refl _) hB) s X Y row h.b hg hr⟩
  rcases h.r.2 with ⟨hv, _⟩ | ⟨g, cap, cur, hv, _, hgb, _⟩
  · exact .inl (by rw [hv]; rfl)
  · refine .inr fun e' => ?_
    obtain ⟨o, ho, hc⟩ := (hr g (by rw [← e', hv]; rfl)).2
    rw [hgb] at ho
    cases ho
    cases hc
theorem CvSt.app {w W w1 : World} {N : Nat} {F v v' : Value} {k : Nat} {ps : List (Int × Int)} {x y : Int} {o : Obj} (h : CvSt w W N F v k ps)
    (hown : w1.ownsRow w.heap.size 44 2 v' (k + 1) (pairs ps ++ [.int .i64 x, .int .i64 y])) (hg : (W.alloc o).grownBy w1 v.ownBlock) :
    Boxed w1 (w.heap.size + 2) 47 v ∧ CvSt w (w1.setCell ⟨w.heap.size + 2, 0, none⟩ v') N F v' (k + 1) (ps ++ [(x, y)]) ∧ KeepsOthers W (w1.setCell ⟨w.heap.size + 2, 0, none⟩ v') := by
  obtain ⟨hv1, hv2, hr2, hk2, hb2⟩ := h.o.appended (by decide) h.r (by have := h.o.lt; omega) (by omega) hown hg
  have kp : ∀ {b : Nat} {t : TypeId} {u : Value}, t ≠ 44 → b ≠ w.heap.size + 2 → Boxed W b t u → Boxed (w1.setCell ⟨w.heap.size + 2, 0, none⟩ v') b t u := fun ht hne hx =>
    ((hx.alloc o).kept hg (hx.not_row ht h.r)).other hne v'
  exact ⟨hv1, ⟨kp (by decide) (by omega) h.n, kp (by decide) (by omega) h.x, hv2, by simpa [pairs_append, pairs_cons, pairs_nil] using hr2, h.b.trans hb2⟩, hk2⟩
theorem own_putC {W : World} {base D : Nat} {e : TypeId} {size : Nat} {v : Value} {n : Nat} {xs : List Value} {ds : Option (List Deferred)} {o : Obj} (hK : W.heap[D]? = some (.deferred ds)) (h : W.ownsRow base e size v n xs) : (W.putObj D o).ownsRow base e size v n xs := by
  refine own_same h (fun k hk => World.putObj_heap_other ?_)
  intro e
  subst e
  rcases h.2 with ⟨hv, hn⟩ | ⟨g, cap, cur, hv, hb, hh, hn, hm, hs, ht⟩
  · rw [hv] at hk; simp [Value.ownBlock] at hk
  · rw [hv] at hk; simp [Value.ownBlock] at hk; subst hk; rw [hh] at hK; cases hK
/-- a new struct of two numbers -/
theorem new_two (W : World) (x y : Int) (E : TypeId) : (W.alloc (.cells #[.int .i64 x, .int .i64 y] E)).heap[W.heap.size]? = some (.cells #[.int .i64 x, .int .i64 y] E (0, 0)) := World.alloc_heap_new W _

set_option maxRecDepth 100000 in
set_option maxHeartbeats 2000000 in
theorem baseVis_yes (N : Nat) (A : Option Addr) (c : Nat) (xs : List Int) (w : World) (h : Rd w A (ints xs)) (n3 : 3 ≤ N) (n7 : N ≤ 7) (hx : xs.length = nb N - (N - 1)) :
    Calls Try.prog 66 #[.int .i64 (N : Int), .slice A xs.length c] w fun e w' => ∃ R cr, e = .returned (.slice R (nb N) cr) ∧ nb N ≤ cr ∧ Ow w' 44 w.heap.size w'.heap.size R (pairs (upto (cvF N xs) (nb N))) ∧ Below w.heap.size w w' := by
  have hnb := nb_le n7
  have HX := Lib.hid hx
  obtain ⟨i0, hi, hz0, hz1, hz2⟩ := info_parts info_Vis
  clear hx
  refine (callsIn_wide (n := 6)).1 ?_
  refine callsIn_of_wp_marks Try.func66 rfl trivial ?_ rfl
  simp only [Try.ntmps66, List.size_toArray, List.length_cons, List.length_nil, Nat.reduceAdd, Nat.reduceSub, Array.replicate_succ, Array.replicate_zero, List.push_toArray, List.append_toArray, List.nil_append, List.cons_append]
  gi_wp2_with (refine ⟨trivial, ?_⟩; gi_at_call 52; refine (callsIn_wide.2 (bases_any _ _)).mono ?_; rintro e w' ⟨rfl, rfl⟩)
  simp only [Nat.add_assoc, Nat.reduceAdd]
  obtain ⟨W3, hW3⟩ : ∃ W3 : World, W3 = (((w.alloc (.cells #[.int .i64 (N : Int)] 3)).alloc (.cells #[.slice A xs.length c] 28)).alloc (.cells #[.slice none 0 0] 47)).alloc (.cells #[.int .i64 (N : Int)] 3) := ⟨_, rfl⟩
  rw [← hW3]
  have st3 : CvSt w W3 N (.slice A xs.length c) (.slice none 0 0) 0 [] := by
    rw [hW3]
    refine ⟨(((Boxed.new w _ _).alloc _).alloc _).alloc _, ?_, ?_, World.ownsRow_nil _ _ _ _, (((((Below.refl _ _).alloc (Nat.le_refl _) _).alloc (by simp) _).alloc (by simp; omega) _)).alloc (by simp; omega) _⟩
    · have := ((Boxed.new (w.alloc (.cells #[.int .i64 (N : Int)] 3)) 28 (.slice A xs.length c)).alloc (.cells #[.slice none 0 0] 47)).alloc (.cells #[.int .i64 (N : Int)] 3)
      simpa using this
    · have := (Boxed.new ((w.alloc (.cells #[.int .i64 (N : Int)] 3)).alloc (.cells #[.slice A xs.length c] 28)) 47 (.slice none 0 0)).alloc (.cells #[.int .i64 (N : Int)] 3)
      simpa using this
  have bN : Boxed W3 (w.heap.size + 3) 3 (.int .i64 (N : Int)) := by
    rw [hW3]
    have := Boxed.new (((w.alloc (.cells #[.int .i64 (N : Int)] 3)).alloc (.cells #[.slice A xs.length c] 28)).alloc (.cells #[.slice none 0 0] 47)) 3 (.int .i64 (N : Int))
    simpa using this
  have s3 : w.heap.size + 4 ≤ W3.heap.size := by rw [hW3]; simp
  clear hW3
  refine' range_in_order rfl (by decide) (gf := 68) (lb := #[.pointer (some ⟨w.heap.size + 3, 0, none⟩)]) rfl trivial (enters_of Try.func68 (by kernel_rfl) rfl)
    (bases_order N 5 (by omega) n7 (by decide) (w.heap.size + 3) W3 bN) kpB_t (kpB_b (by omega)) (Below.refl _ _) (fun _ => rfl)
    (fun (pre : List (Bx N)) W => ∃ v, CvSt w W N (.slice A xs.length c) v pre.length (upto (cvF N xs) pre.length) ∧ Boxed W (w.heap.size + 3) 3 (.int .i64 (N : Int)))
    ?own ⟨_, st3, bN⟩ _ ?assign ?body ?done
  case own =>
    rintro s X Y row ⟨v, hs, hb⟩ hg hr
    exact ⟨v, CvSt.own (β := Unit) (v := fun _ => v) (k := fun _ => s.length) (ps := fun _ => upto (cvF N xs) s.length) (show w.heap.size ≤ W3.heap.size by omega) () X Y row hs hg hr, boxed_own _ _ (fun (_ : Unit) => .int .i64 (N : Int)) () X Y row hb hg (fun r e => (hr r e).2)⟩
  case assign =>
    intro l x W K hK
    unfold encB
    gi_wp2
    exact hK
  case body =>
    clear st3 bN
    rintro l pre x W ⟨v, hst, xN⟩ hpos
    have hlt : pre.length < nb N := by rw [← hpos]; exact x.2
    obtain ⟨Ao, co, rfl, hco, hcm⟩ := own_shape hst.r
    have b0 := Lib.hid (Below.refl W.heap.size W)
    have fin : ∀ (Wx w1 : World) (y : Int) (v' : Value) (o : Obj), y = (cvF N xs pre.length).2 → Below W.heap.size W Wx → w1.ownsRow w.heap.size 44 2 v' (pre.length + 1) (pairs (upto (cvF N xs) pre.length) ++ [.int .i64 1, .int .i64 y]) → (Wx.alloc o).grownBy w1 (Value.slice Ao pre.length co).ownBlock →
        Boxed w1 (w.heap.size + 2) 47 (.slice Ao pre.length co) ∧ KeepsFrom W3.heap.size W (w1.setCell ⟨w.heap.size + 2, 0, none⟩ v') ∧ KpB (w.heap.size + 3) W (w1.setCell ⟨w.heap.size + 2, 0, none⟩ v') ∧ ∃ v, CvSt w (w1.setCell ⟨w.heap.size + 2, 0, none⟩ v') N (.slice A xs.length c) v (pre ++ [x]).length (upto (cvF N xs) (pre ++ [x]).length) ∧ Boxed (w1.setCell ⟨w.heap.size + 2, 0, none⟩ v') (w.heap.size + 3) 3 (.int .i64 (N : Int)) := fun Wx w1 y v' o hy hb hown hg => by
      obtain ⟨hv1, h2, hk⟩ := (hst.keep hb).app hown hg
      have xN1 := box_bel2 xN hb
      have vN : Boxed (w1.setCell ⟨w.heap.size + 2, 0, none⟩ v') (w.heap.size + 3) 3 (.int .i64 (N : Int)) :=
        ((xN1.alloc o).kept hg (xN1.not_row (by decide) (hst.keep hb).r)).other (by omega) v'
      refine ⟨hv1, ((keeps_bel hb).trans hk).from _, Eq.trans vN xN.symm, v', ?_, vN⟩
      rw [List.length_append, List.length_singleton, show upto (cvF N xs) (pre.length + 1) = upto (cvF N xs) pre.length ++ [(1, y)] by rw [hy]; simp [upto, List.range_succ]; rfl]
      exact h2
    have FIN := Lib.hid fin
    clear fin
    have cN := (hst.n.alloc (.cells #[.int .i64 1, .int .i64 0] 44)).cell
    have cX := (hst.x.alloc (.cells #[.int .i64 1, .int .i64 0] 44)).cell
    have cO := (hst.o.alloc (.cells #[.int .i64 1, .int .i64 0] 44)).cell
    have B2 : Below W.heap.size W (W.alloc (.cells #[.int .i64 1, .int .i64 0] 44)) := (Below.refl _ _).alloc (Nat.le_refl _) _
    have H2 := new_two W 1 0 44
    have m1 := Lib.hid (show pre.length + 1 ≤ maxLen by simp [maxLen]; omega)
    have m2 := Lib.hid (show (pre.length + 1) * 16 ≤ 140737488355328 by omega)
    have hbw := hst.b.size
    have HST := Lib.hid hst
    by_cases h0 : b1 N x.1 = 0
    · have hy := Lib.hid (show (0 : Int) = (cvF N xs pre.length).2 by unfold cvF; rw [if_pos (by rw [← hpos]; exact baseB_zero n7 x.2 h0)])
      have d1 : ¬ (0 : Int) < ((b1 N x.1 : Nat) : Int) := by omega
      have d2 : ¬ 0 < b1 N x.1 := by omega
      clear hst h0 hpos
      gi_upto_region 5 with fail
      obtain ⟨W4, hW4⟩ : ∃ W2 : World, W2 = W.alloc (.cells #[.int .i64 1, .int .i64 0] 44) := ⟨_, rfl⟩
      rw [← hW4] at cN cX cO B2 H2 ⊢
      clear hW4
      obtain ⟨t0, t1, t2, t3, t4⟩ := two_cells H2
      have HB := Lib.hid B2
      have m3 := Lib.hid (base_a (o := .cells #[.int .i64 1, .int .i64 0] 44) (Nat.le_trans hbw B2.size))
      have HR := Lib.hid ((HST.out.keep B2).r)
      clear B2 H2
      gi_wp2_with (gi_at_builtin; refine wpListIn_append_own _ rfl _ _ 47 rfl w.heap.size 44 i0 (.agg #[.int .i64 0, .int .i64 0]) 2 16 Try.underlying47 hi hz0 hz1 hz2 rfl (by decide) _ pre.length (pairs (upto (cvF N xs) pre.length)) rfl (HR.out.alloc _) ⟨W4.heap.size, 0, none⟩ 1 1 [.int .i64 1, .int .i64 0] rfl rfl (news2 _ _ _ _) (one2 _ _) m1.out m2.out m3.out ?_; intro v' w1 hown1 hgrow hnil; obtain ⟨A', c', rfl, _, _⟩ := own_shape hown1; obtain ⟨hv1, F1, F2, F3⟩ := FIN.out _ _ _ _ _ hy.out HB.out hown1 hgrow; have G := Lib.hid (And.intro F1 (And.intro F2 F3)); have cv1 := hv1.cell; have fv1 := hv1.frozen; clear hown1 hgrow hnil F1 F2 F3)
      gi_wp2
      obtain ⟨F1, F2, v9, F3, F4⟩ := G.out
      first | exact G.out | exact ⟨F1, F2, ⟨v9, F3⟩, F4⟩
    · obtain ⟨k1, k2⟩ := baseB_idx n3 n7 x.2 (show 0 < b1 N x.1 by omega)
      rw [hpos] at k1 k2
      obtain ⟨K, hK⟩ : ∃ K : Nat, K = pre.length - (N - 1) := ⟨_, rfl⟩
      obtain ⟨qb, ob, rfl, hqb, a1⟩ := (h.below hst.b (Nat.le_refl _)).int_at (k := K) (by rw [HX.out, hK]; exact k2)
      obtain ⟨y, hy1⟩ : ∃ y : Int, y = gi xs K := ⟨_, rfl⟩
      have hy := Lib.hid (show y = (cvF N xs pre.length).2 by unfold cvF; rw [if_neg (by omega), ← hK]; exact hy1)
      rw [← hy1] at a1
      have a2 := bel_cell B2 hqb a1
      have d1 : (0 : Int) < ((b1 N x.1 : Nat) : Int) := by omega
      have i1 : (K : Int) < (xs.length : Int) := by rw [HX.out]; omega
      have w1' : IntKind.i64.wrap ((N : Int) - 1) = (N : Int) - 1 := IntWalk.i64_in _ (by omega)
      have e7 : (pre.length : Int) - ((N : Int) - 1) = (K : Int) := by omega
      have w2' : IntKind.i64.wrap (K : Int) = (K : Int) := IntWalk.i64_in _ (by clear w1'; omega)
      have w3' : IntKind.i64.wrap ((pre.length : Int) - ((N : Int) - 1)) = (K : Int) := by rw [e7]; exact w2'
      clear hst hy1 a1 hK hpos
      gi_upto_region 5 with fail
      obtain ⟨W2, hW2⟩ : ∃ W2 : World, W2 = W.alloc (.cells #[.int .i64 1, .int .i64 0] 44) := ⟨_, rfl⟩
      rw [← hW2] at cN cX cO B2 H2 a2 ⊢
      clear hW2
      obtain ⟨t0, t1, t2, t3, t4⟩ := two_cells H2
      gi_upto_region 7 with fail
      clear w1' e7 w2' w3' t0 t1 t2 t3
      obtain ⟨W4, hW4⟩ : ∃ W4 : World, W4 = W2.setCell ⟨W.heap.size, 1, none⟩ (.int .i64 y) := ⟨_, rfl⟩
      rw [← hW4]
      replace cO : W4.cell? ⟨w.heap.size + 2, 0, none⟩ = some (.slice Ao pre.length co) := by rw [hW4, World.cell?_setCell_other]; exact cO; intro e; injection e; have := HST.out.o.lt; omega
      replace B2 : Below W.heap.size W W4 := by rw [hW4]; exact B2.setCell (p := ⟨W.heap.size, 1, none⟩) (Nat.le_refl _) _
      replace H2 : W4.heap[W.heap.size]? = some (.cells #[.int .i64 1, .int .i64 y] 44 (0, 0)) := by rw [hW4]; simp [World.setCell, Array.getElem?_modify, H2]
      clear hW4 cN cX a2 t4
      obtain ⟨t0, t1, t2, t3, t4⟩ := two_cells H2
      have HB := Lib.hid B2
      have m3 := Lib.hid (base_a (o := .cells #[.int .i64 1, .int .i64 y] 44) (Nat.le_trans hbw B2.size))
      have HR := Lib.hid ((HST.out.keep B2).r)
      clear B2 H2
      gi_wp2_with (gi_at_builtin; refine wpListIn_append_own _ rfl _ _ 47 rfl w.heap.size 44 i0 (.agg #[.int .i64 0, .int .i64 0]) 2 16 Try.underlying47 hi hz0 hz1 hz2 rfl (by decide) _ pre.length (pairs (upto (cvF N xs) pre.length)) rfl (HR.out.alloc _) ⟨W4.heap.size, 0, none⟩ 1 1 [.int .i64 1, .int .i64 y] rfl rfl (news2 _ _ _ _) (one2 _ _) m1.out m2.out m3.out ?_; intro v' w1 hown1 hgrow hnil; obtain ⟨A', c', rfl, _, _⟩ := own_shape hown1; obtain ⟨hv1, F1, F2, F3⟩ := FIN.out _ _ _ _ _ hy.out HB.out hown1 hgrow; have G := Lib.hid (And.intro F1 (And.intro F2 F3)); have cv1 := hv1.cell; have fv1 := hv1.frozen; clear hown1 hgrow hnil F1 F2 F3)
      gi_wp2
      obtain ⟨F1, F2, v9, F3, F4⟩ := G.out
      first | exact G.out | exact ⟨F1, F2, ⟨v9, F3⟩, F4⟩
  case done =>
    rintro D ys W hD hall ⟨v, hst, xN⟩ hK
    have hl := hall.2
    rw [hl] at hst
    obtain ⟨Ao, co, rfl, hco, hcm⟩ := own_shape hst.r
    have cO := hst.o.cell
    have hr := hst.r
    have hB := hst.b
    clear st3 bN hst xN hl
    gi_wp2
    refine ⟨by simp, .inl ⟨_, _, rfl, run_takeDeferred hK, ⟨_, results_tmp rfl _ _ _, ?_⟩⟩⟩
    exact ⟨Ao, co, rfl, hco, Ow.of_own (own_putC hK hr), hB.trans (belowK_b (w := w) (Nat.le_refl _) _ D _ _ (by omega) hK rfl rfl)⟩
set_option maxHeartbeats 1000000 in
theorem CloseVis_any (n : Int) (A : Option Addr) (c : Nat) (xs : List Int) (w : World) (h : Rd w A (ints xs)) (hl : xs.length ≤ 1048592) {m : Nat} (hm : xs.length = m) :
    Calls Try.prog 43 #[.int .i64 n, .slice A m c] w (RetG w 44 (closeVis n xs)) := by
  subst hm
  cases hb : baseB n xs with
  | false =>
    rw [cv_no hb]
    go_enter Try.func43, Try.ntmps43
    go_wp2_with fail
    refine (isBase_any _ _ _ _ _ h hl rfl).mono ?_; rintro e w' ⟨rfl, rfl⟩
    rw [hb]
    go_wp2
    go_ret2
    exact RetG.none_ _ _ (Below.refl _ _)
  | true =>
    obtain ⟨N, rfl, n3, n7, hx, hx2, hx3⟩ := baseB_ok hb
    have HF := Lib.hid (cv_mk hb)
    have HC := Lib.hid (baseVis_yes N A c xs w h n3 n7 hx2)
    clear hx hx2 hx3
    go_enter Try.func43, Try.ntmps43
    go_wp2_with fail
    refine (isBase_any _ _ _ _ _ h hl rfl).mono ?_; rintro e w' ⟨rfl, rfl⟩
    rw [hb]
    clear hb
    go_wp2_with fail
    refine (HC.out).mono ?_
    rintro e w2 ⟨R, cr, rfl, hc, ho, hB⟩
    go_wp2
    go_ret2
    rw [HF.out]
    exact ⟨R, cr, by simp, by simpa using hc, ho, hB⟩
end Go.Proofs.Ytopneihamefohaa
