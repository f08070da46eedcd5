/-
  Contract of the program's FlagLinked.
-/
import Derived.Test.YtopneihamefohaaFlagS
import Derived.Test.YtopneihamefohaaBases
import Derived.Sort.CutIn
import Derived.BigQuiet
namespace Go.Proofs.Ytopneihamefohaa
set_option linter.unusedVariables false
open Go.RowKit Go.Shelf
attribute [local go_sem] Oper.semAt_some

/-- a block of numbers known whole -/
def RowB (W : World) (g : Nat) (zs : List Int) : Prop := W.heap[g]? = some (.cells (ints zs).toArray 3 (0, 0))
theorem RowB.lt {W : World} {g : Nat} {zs : List Int} (h : RowB W g zs) : g < W.heap.size := (Array.getElem?_eq_some_iff.1 h).1
theorem RowB.cell {W : World} {g k : Nat} {zs : List Int} (h : RowB W g zs) (hk : k < zs.length) : W.cell? ⟨g, k, none⟩ = some (.int .i64 (gi zs k)) := by
  rw [cell_of_row W g k _ _ _ h]
  have := ints_get hk
  simpa using this
theorem RowB.free {W : World} {g k : Nat} {zs : List Int} (h : RowB W g zs) : W.frozen? ⟨g, k, none⟩ = false := by
  unfold RowB at h
  simp [World.frozen?, h]
theorem RowB.set {W : World} {g k : Nat} {zs : List Int} (h : RowB W g zs) (z : Int) : RowB (W.setCell ⟨g, k, none⟩ (.int .i64 z)) g (zs.set k z) := by
  unfold RowB at h ⊢
  rw [← ints_set]
  simp [World.setCell, Array.getElem?_modify, h]
theorem RowB.other {W : World} {g b : Nat} {zs : List Int} (h : RowB W g zs) (hne : g ≠ b) (k : Nat) (u : Value) : RowB (W.setCell ⟨b, k, none⟩ u) g zs :=
  (Below.heap_setCell W ⟨b, k, none⟩ u g hne).trans h
theorem RowB.bel {W W' : World} {g : Nat} {zs : List Int} (h : RowB W g zs) (hb : Below W.heap.size W W') : RowB W' g zs := (hb.block g h.lt).trans h
theorem RowB.ow {W : World} {g lo hi : Nat} {zs : List Int} (h : RowB W g zs) (h1 : lo ≤ g) (h2 : g < hi) : Ow W 3 lo hi (some ⟨g, 0, none⟩) (ints zs) := fun _ =>
  ⟨g, 0, _, rfl, h1, h2, h, fun i hi => by simp⟩
theorem made_rep (n : Nat) : madeCells #[Value.int .i64 0] n = (ints (List.replicate n 0)).toArray := by
  apply Array.ext
  · simp [madeCells]
  · intro i h1 h2
    simp at h2
    have := made_get (.int .i64 0) n i h2
    have h3 : (madeCells #[Value.int .i64 0] n)[i] = .int .i64 0 := by
      have e := Array.getElem?_eq_getElem h1
      rw [this] at e
      injection e with e
      exact e.symm
    rw [h3]
    simp [ints]
theorem cells_own {β : Type} (g : Nat) (E : TypeId) (f : β → Array Value) : Own (fun s W => W.heap[g]? = some (.cells (f s) E (0, 0))) := fun s X Y row hs hg hrow =>
  (hg.block g (Array.getElem?_eq_some_iff.1 hs).1 (fun e => by
    obtain ⟨o, ho, hc⟩ := hrow g e.symm
    rw [hs] at ho
    cases ho
    cases hc)).trans hs
theorem rowB_own {β : Type} (g : Nat) (f : β → List Int) : Own (fun s W => RowB W g (f s)) := cells_own g 3 (fun s => (ints (f s)).toArray)
theorem box_bel2 {W W' : World} {b : Nat} {t : TypeId} {v : Value} (h : Boxed W b t v) (hb : Below W.heap.size W W') : Boxed W' b t v := (hb.block b h.lt).trans h
theorem quiet_of_w {P : Program} {f : FuncId} {args : Array Value} {v : Value} (h : ∀ w, Calls P f args w fun e w' => e = .returned v ∧ w = w') : ∀ (w : World) {n : Nat}, Calls P f args (w.drewN n) fun e w'' => e = .returned v ∧ ∃ m, w'' = w.drewN m :=
  fun w n => (h (w.drewN n)).mono fun _ _ ⟨he, hw⟩ => ⟨he, n, hw.symm⟩

/-- the labels behind those baselines that have come -/
def labP {N : Nat} (fl : List Bool) (pre : List (Bx N)) : Nat → Nat := pre.foldl (fun L x => if gb fl x.1 = true then L else joined L (b1 N x.1) (b2 N x.1)) (fun v => v)
theorem labP_snoc {N : Nat} (fl : List Bool) (pre : List (Bx N)) (x : Bx N) : labP fl (pre ++ [x]) = if gb fl x.1 = true then labP fl pre else joined (labP fl pre) (b1 N x.1) (b2 N x.1) := by simp [labP]
theorem labP_all {N : Nat} {fl : List Bool} {xs : List (Bx N)} (h : AllB xs) : labP fl xs = lab N fl := by
  have h1 : ∀ (L : Nat → Nat) (ys : List (Bx N)), ys.foldl (fun L x => if gb fl x.1 = true then L else joined L (b1 N x.1) (b2 N x.1)) L = (ys.map (·.1)).foldl (fun L k => if gb fl k = true then L else joined L (b1 N k) (b2 N k)) L := fun L ys => by
    rw [List.foldl_map]
  have h2 : ∀ m, (List.range m).foldl (fun L k => if gb fl k = true then L else joined L (b1 N k) (b2 N k)) (fun v => v) = labTo N fl m := fun m => by
    induction m with
    | zero => rfl
    | succ m ih => rw [List.range_succ, List.foldl_append, ih]; rfl
  unfold labP
  rw [h1, show xs.map (·.1) = List.range xs.length from h.1, h2, h.2]
  rfl
/-- numbers in new memory; nil if there are none -/
def RetN (w : World) (r : List Int) (e : Ending) (w' : World) : Prop :=
  ∃ A c, e = .returned (.slice A r.length c) ∧ r.length ≤ c ∧ (r = [] → A = none ∧ c = 0) ∧ (r ≠ [] → A ≠ none) ∧ Ow w' 3 w.heap.size w'.heap.size A (ints r) ∧ Below w.heap.size w w'
def iniL (k v : Nat) : Nat := if v < k then v else 0
theorem ini_zero (N : Nat) : natL N (iniL 0) = List.replicate N 0 := by
  apply List.ext_getElem (by simp)
  intro i h1 h2
  simp [natL, iniL]
theorem ini_step {N k : Nat} (h : k < N) : (natL N (iniL k)).set k (k : Int) = natL N (iniL (k + 1)) :=
  natL_set h (by simp [iniL]) (fun v hv hne => by unfold iniL; by_cases e : v < k <;> simp [e] <;> omega)
theorem ini_all (N : Nat) : natL N (iniL N) = natL N (fun v => v) := natL_congr fun v hv => by simp [iniL, hv]
/-- two groups in the joining: the first k have their new labels -/
def parJ (L : Nat → Nat) (i j k v : Nat) : Nat := if v < k then joined L i j v else L v
theorem par_zero (N : Nat) (L : Nat → Nat) (i j : Nat) : natL N (parJ L i j 0) = natL N L := natL_congr fun v hv => by simp [parJ]
theorem par_all (N : Nat) (L : Nat → Nat) (i j : Nat) : natL N (parJ L i j N) = natL N (joined L i j) := natL_congr fun v hv => by simp [parJ, hv]
theorem par_at {N k : Nat} (L : Nat → Nat) (i j : Nat) (h : k < N) : gi (natL N (parJ L i j k)) k = ((L k : Nat) : Int) := by rw [gi_natL _ h]; simp [parJ]
theorem par_yes {N k : Nat} {L : Nat → Nat} {i j : Nat} (h : k < N) (e : L k = max (L i) (L j)) {z : Int} (hz : z = ((min (L i) (L j) : Nat) : Int)) : (natL N (parJ L i j k)).set k z = natL N (parJ L i j (k + 1)) :=
  natL_set h (by rw [hz]; simp [parJ, joined, e]) (fun v hv hne => by unfold parJ; by_cases e : v < k <;> simp [e] <;> omega)
theorem par_no {N k : Nat} {L : Nat → Nat} {i j : Nat} (h : k < N) (e : L k ≠ max (L i) (L j)) : natL N (parJ L i j k) = natL N (parJ L i j (k + 1)) := natL_congr fun v hv => by
  unfold parJ
  by_cases h1 : v < k
  · rw [if_pos h1, if_pos (show v < k + 1 by omega)]
  · rw [if_neg h1]
    by_cases h2 : v = k
    · subst h2; rw [if_pos (Nat.lt_succ_self v)]; unfold joined; rw [if_neg e]
    · rw [if_neg (show ¬ v < k + 1 by omega)]
theorem keeps_bel {W W' : World} (h : Below W.heap.size W W') : KeepsOthers W W' := ⟨h.size, fun k o ho _ => (h.block k (Array.getElem?_eq_some_iff.1 ho).1).trans ho⟩
theorem RowB.putObj {W : World} {g D : Nat} {zs : List Int} {ds : Option (List Deferred)} {o : Obj} (h : RowB W g zs) (hK : W.heap[D]? = some (.deferred ds)) : RowB (W.putObj D o) g zs := by
  refine (World.putObj_heap_other ?_).trans h
  intro e
  subst e
  unfold RowB at h
  rw [hK] at h
  cases h

set_option maxRecDepth 100000 in
set_option maxHeartbeats 1000000 in
theorem FlagLinked_yes (N : Nat) (A : Option Addr) (c : Nat) (fl : List Bool) (w : World) (h : Rd w A (bools fl)) (hf : flB (N : Int) fl = true) {m : Nat} (hm : fl.length = m) :
    Calls Try.prog 21 #[.int .i64 (N : Int), .slice A m c] w (RetN w (linkL (N : Int) fl)) := by
  subst hm
  obtain ⟨N', e, n2, n7, hl⟩ := flB_ok hf
  obtain rfl : N = N' := by omega
  have hnb := nb_le n7
  have HL := Lib.hid hl
  have hl1 : fl.length ≤ 21 := by omega
  have HR := Lib.hid (linkL_mk hf)
  have hmany := manyB_mk n2 n7
  have hbm : (((fl.length : Nat) : Int) != bm (N : Int)) = false := by rw [bm_nat n2 n7, hl]; simp
  have HQ1 := Lib.hid (quiet_of_w (isMany_any (N : Int)))
  have HQ2 := Lib.hid (quiet_of_w (BaseMany_any (N : Int)))
  clear e hl
  refine (callsIn_wide (n := 6)).1 ?_
  refine callsIn_of_wp_marks Try.func21 rfl trivial ?_ rfl
  simp only [Try.ntmps21, List.size_toArray, List.length_cons, List.length_nil, Nat.reduceAdd, Nat.reduceSub, Array.replicate_succ, Array.replicate_zero, List.push_toArray, List.append_toArray, List.nil_append, List.cons_append]
  obtain ⟨W0, hW0⟩ : ∃ W0 : World, W0 = (w.alloc (.cells #[.int .i64 (N : Int)] 3)).alloc (.cells #[.slice A fl.length c] 27) := ⟨_, rfl⟩
  have bw : Below w.heap.size w W0 := by rw [hW0]; exact ((Below.refl _ _).alloc (Nat.le_refl _) _).alloc (by simp) _
  have x1 : Boxed W0 w.heap.size 3 (.int .i64 (N : Int)) := by rw [hW0]; exact (Boxed.new w _ _).alloc _
  have x2 : Boxed W0 (w.heap.size + 1) 27 (.slice A fl.length c) := by rw [hW0]; have := Boxed.new (w.alloc (.cells #[.int .i64 (N : Int)] 3)) 27 (.slice A fl.length c); simpa using this
  have z0 : W0.heap.size = w.heap.size + 2 := by rw [hW0]; simp
  have Z0 := Lib.hid z0
  clear z0
  have c1 := x1.cell
  have c2 := x2.cell
  gi_wp2_with fail
  rw [← hW0]
  refine wpIn_wide.2 ?_
  go_quiet ((first | (go_at_call 49; exact HQ1.out _) | (go_at_call 18; exact HQ2.out _)))
  obtain ⟨W1, hW1⟩ : ∃ W1 : World, W1 = W0.drewN nq := ⟨_, rfl⟩
  have y1 : Boxed W1 w.heap.size 3 (.int .i64 (N : Int)) := by rw [hW1]; exact x1
  have y2 : Boxed W1 (w.heap.size + 1) 27 (.slice A fl.length c) := by rw [hW1]; exact x2
  have bw1 : Below w.heap.size w W1 := by rw [hW1]; exact below_drewN bw _
  have Z1 := Lib.hid (show W1.heap.size = w.heap.size + 2 by rw [hW1]; exact Z0.out)
  rw [← hW1]
  clear hW1 hW0 c1 c2 x1 x2 bw Z0
  have c1 := y1.cell
  have hmk := fun w => run_make_row' (P := Try.prog) 28 3 (.int .i64 0) 8 Try.underlying28 info_int rfl .i64 .i64 N (by omega) (by omega) w
  gi_wp2
  have B2 : Below W1.heap.size W1 ((W1.alloc (.cells (madeCells #[.int .i64 0] N) 3)).alloc (.cells #[.slice (some ⟨W1.heap.size, 0, none⟩) N N] 28)) := ((Below.refl _ _).alloc (Nat.le_refl _) _).alloc (by simp) _
  have r0 : RowB ((W1.alloc (.cells (madeCells #[.int .i64 0] N) 3)).alloc (.cells #[.slice (some ⟨W1.heap.size, 0, none⟩) N N] 28)) W1.heap.size (natL N (iniL 0)) := by
    unfold RowB
    rw [Below.heap_alloc _ _ _ (by simp), ini_zero, ← made_rep]
    exact heap_alloc_new W1 _
  have y3 : Boxed ((W1.alloc (.cells (madeCells #[.int .i64 0] N) 3)).alloc (.cells #[.slice (some ⟨W1.heap.size, 0, none⟩) N N] 28)) (W1.heap.size + 1) 28 (.slice (some ⟨W1.heap.size, 0, none⟩) N N) := by
    have := Boxed.new (W1.alloc (.cells (madeCells #[.int .i64 0] N) 3)) 28 (.slice (some ⟨W1.heap.size, 0, none⟩) N N)
    simpa using this
  have e1 := Nat.le_of_eq Z1.out
  have e2 := Nat.le_of_eq Z1.out.symm
  have hR0 := Lib.hid (And.intro r0 (And.intro (box_bel2 y1 B2) (And.intro (box_bel2 y2 B2) (And.intro y3 (bel_trans bw1 B2)))))
  clear hmk r0 y3 B2 y1 y2 bw1 c1 HQ1 HQ2
  gi_loopw [26] (fun i wr => ∃ k : Nat, k ≤ N ∧ i = .int .i64 k ∧ RowB wr W1.heap.size (natL N (iniL k)) ∧ Boxed wr w.heap.size 3 (.int .i64 (N : Int)) ∧ Boxed wr (w.heap.size + 1) 27 (.slice A fl.length c) ∧ Boxed wr (W1.heap.size + 1) 28 (.slice (some ⟨W1.heap.size, 0, none⟩) N N) ∧ Below w.heap.size w wr) (fun i _ => N - (intOf i).toNat)
  case atStart => exact ⟨0, Nat.zero_le _, rfl, hR0.out.1, hR0.out.2.1, hR0.out.2.2.1, hR0.out.2.2.2.1, hR0.out.2.2.2.2⟩
  case round =>
    clear hR0
    obtain ⟨k, hk, rfl, hr, x1, x2, x3, hB⟩ := hrel
    obtain ⟨wo, rfl⟩ : ∃ wo : World, wo = wr := ⟨_, rfl⟩
    have k3 := x3.cell
    by_cases hlt : k < N
    · have i1 : (k : Int) < (N : Int) := by omega
      have cc := hr.cell (k := k) (by simpa using hlt)
      have ff := hr.free (k := k)
      have HP := Lib.hid (ini_step hlt)
      have HV := Lib.hid (hr.set (k := k) (k : Int))
      have X := Lib.hid (And.intro x1 (And.intro x2 (And.intro x3 hB)))
      clear hr x1 x2 x3 hB
      gi_wp2
      go_roundw
      case rel => exact ⟨k + 1, by omega, by go_num, by rw [← HP.out]; exact HV.out, (Below.heap_setCell wo ⟨W1.heap.size, k, none⟩ _ w.heap.size (by show w.heap.size ≠ W1.heap.size; omega)).trans X.out.1, (Below.heap_setCell wo ⟨W1.heap.size, k, none⟩ _ (w.heap.size + 1) (by show w.heap.size + 1 ≠ W1.heap.size; omega)).trans X.out.2.1, (Below.heap_setCell wo ⟨W1.heap.size, k, none⟩ _ (W1.heap.size + 1) (by show W1.heap.size + 1 ≠ W1.heap.size; omega)).trans X.out.2.2.1, X.out.2.2.2.setCell (by show w.heap.size ≤ W1.heap.size; omega) _⟩
      case measure => simp [intOf]; omega
    · obtain rfl : k = N := by omega
      rw [ini_all] at hr
      obtain ⟨W2, rfl⟩ : ∃ wq : World, wq = wo := ⟨_, rfl⟩
      obtain ⟨N, rfl⟩ : ∃ N : Nat, N = k := ⟨_, rfl⟩
      have k1 := x1.cell
      have z2 := x3.lt
      have d1 : decide ((N : Int) < (N : Int)) = false := by simp
      gi_wp2_with (refine ⟨trivial, ?_⟩; gi_at_call 52; refine (callsIn_wide.2 (bases_any _ _)).mono ?_; rintro e w' ⟨rfl, rfl⟩)
      obtain ⟨W3, hW3⟩ : ∃ W3 : World, W3 = W2.alloc (.cells #[.int .i64 (N : Int)] 3) := ⟨_, rfl⟩
      rw [← hW3]
      have bN : Boxed W3 W2.heap.size 3 (.int .i64 (N : Int)) := by rw [hW3]; exact Boxed.new W2 _ _
      have b3 : Below W2.heap.size W2 W3 := by rw [hW3]; exact (Below.refl _ _).alloc (Nat.le_refl _) _
      have s3 : W2.heap.size + 1 ≤ W3.heap.size := by rw [hW3]; simp
      have r3 := hr.bel b3
      have q1 := box_bel2 x1 b3
      have q2 := box_bel2 x2 b3
      have q3 := box_bel2 x3 b3
      have bw3 := hB.trans (b3.mono hB.size)
      clear hW3 b3 hr x1 x2 x3 hB k1 k3 d1 hlt
      refine' wpIn_rangeFunc_ownG rfl (by decide) (gf := 68) (lb := #[.pointer (some ⟨W2.heap.size, 0, none⟩)]) rfl trivial (enters_of Try.func68 (by kernel_rfl) rfl)
        (bases_stops N 5 n2 n7 (by decide) W2.heap.size W3 bN) kpB_t (kpB_b (by omega)) (Below.refl _ _) (fun _ => rfl)
        (fun (pre : List (Bx N)) W => RowB W W1.heap.size (natL N (labP fl pre)) ∧ Boxed W w.heap.size 3 (.int .i64 (N : Int)) ∧ Boxed W (w.heap.size + 1) 27 (.slice A fl.length c) ∧ Boxed W (W1.heap.size + 1) 28 (.slice (some ⟨W1.heap.size, 0, none⟩) N N) ∧ Boxed W W2.heap.size 3 (.int .i64 (N : Int)) ∧ Below w.heap.size w W)
        (fun _ _ _ => False)
        (OwnFrom.and (Own.from (rowB_own _ (fun pre => natL N (labP fl pre))) _) (OwnFrom.and (Own.from (boxed_own _ _ _) _) (OwnFrom.and (Own.from (boxed_own _ _ _) _) (OwnFrom.and (Own.from (boxed_own _ _ _) _) (OwnFrom.and (Own.from (boxed_own _ _ _) _) (ownFrom_below (Nat.le_refl _) (by omega)))))))
        (fun _ _ _ _ _ hs _ _ => hs)
        ⟨r3, q1, q2, q3, bN, bw3⟩
        _ ?assign ?body ?done ?stop
      case assign =>
        intro l x W K hK
        unfold encB
        gi_wp2
        exact hK
      case body =>
        clear r3 q1 q2 q3 bN bw3
        rintro l pre x W ⟨hr, x1, x2, x3, xN, hB⟩ hlt
        obtain ⟨x12, x2N, xix⟩ := bs_at n7 x.2
        have x1N : b1 N x.1 < N := by omega
        have HNe := Lib.hid (show b1 N x.1 ≠ b2 N x.1 by omega)
        have HGK := Lib.hid (show gk N (b1 N x.1) (b2 N x.1) = x.1 by rw [gk_lt x12, xix])
        have HQ := Lib.hid (quiet_of_w (v := .int .i64 ((x.1 : Nat) : Int)) (fun w => by have := baseAt_any N (b1 N x.1) (b2 N x.1) w n7 x1N x2N HNe.out; rwa [HGK.out] at this))
        obtain ⟨bq, oq, rfl, hbq, hcq⟩ := (h.below hB (Nat.le_refl _)).bool_at (k := x.1) (by rw [HL.out]; exact x.2)
        have xlt : ((x.1 : Nat) : Int) < (fl.length : Int) := by have := x.2; rw [HL.out]; omega
        have k1 := x1.cell
        have k2 := x2.cell
        have k3 := x3.cell
        clear xix
        cases hg : gb fl x.1 with
        | true =>
          rw [hg] at hcq
          have HPn := Lib.hid (show labP fl (pre ++ [x]) = labP fl pre by rw [labP_snoc, hg]; rfl)
          have X := Lib.hid (And.intro hr (And.intro x1 (And.intro x2 (And.intro x3 (And.intro xN hB)))))
          clear hg hr x1 x2 x3 xN hB
          gi_upto_region 12 with fail
          refine round_quiet (by kernel_rfl) (by kernel_rfl) (by rintro ⟨_, _, x⟩; exact x) (by kernel_rfl) ?_
          repeat (go_big_quiet_step ((go_at_call 53; exact HQ.out _)))
          refine wpQuiet_nil ?_
          intro _ hw'
          obtain ⟨nq, hw''⟩ := hw'
          subst hw''
          gi_wp2
          exact ⟨(keeps_bel (below_drewN (Below.refl _ _) nq)).from _, rfl, by rw [HPn.out]; exact X.out.1, X.out.2.1, X.out.2.2.1, X.out.2.2.2.1, X.out.2.2.2.2.1, below_drewN X.out.2.2.2.2.2 _⟩
        | false =>
          rw [hg] at hcq
          have HPn := Lib.hid (show labP fl (pre ++ [x]) = joined (labP fl pre) (b1 N x.1) (b2 N x.1) by rw [labP_snoc, hg]; rfl)
          have cc1 := hr.cell (k := b1 N x.1) (by simpa using x1N)
          have cc2 := hr.cell (k := b2 N x.1) (by simpa using x2N)
          rw [gi_natL _ x1N] at cc1
          rw [gi_natL _ x2N] at cc2
          have g1 : ((b1 N x.1 : Nat) : Int) < (N : Int) := by omega
          have g2 : ((b2 N x.1 : Nat) : Int) < (N : Int) := by omega
          clear hg
          gi_upto_region 12 with fail
          refine round_quiet (by kernel_rfl) (by kernel_rfl) (by rintro ⟨_, _, x⟩; exact x) (by kernel_rfl) ?_
          repeat (go_big_quiet_step ((go_at_call 53; exact HQ.out _)))
          refine wpQuiet_nil ?_
          intro _ hw'
          obtain ⟨nq, hw''⟩ := hw'
          subst hw''
          rcases Nat.lt_trichotomy (labP fl pre (b1 N x.1)) (labP fl pre (b2 N x.1)) with hle | heq | hle
          · have hle' : ((labP fl pre (b1 N x.1) : Nat) : Int) < ((labP fl pre (b2 N x.1) : Nat) : Int) := by omega
            have hle2 : ¬ ((labP fl pre (b2 N x.1) : Nat) : Int) ≤ ((labP fl pre (b1 N x.1) : Nat) : Int) := by omega
            gi_wp2_with fail
            refine round_quiet (by kernel_rfl) (by kernel_rfl) (by rintro ⟨_, _, x⟩; exact x) (by kernel_rfl) ?_
            repeat (go_big_quiet_step (fail))
            refine wpQuiet_nil ?_
            intro _ hw'
            obtain ⟨nq2, hw''⟩ := hw'
            subst hw''
            obtain ⟨Wd, hWd⟩ : ∃ W' : World, W' = (W.drewN nq).drewN nq2 := ⟨_, rfl⟩
            have vr : RowB Wd W1.heap.size (natL N (labP fl pre)) := by rw [hWd]; exact hr
            have v1 : Boxed Wd w.heap.size 3 (.int .i64 (N : Int)) := by rw [hWd]; exact x1
            have v2 : Boxed Wd (w.heap.size + 1) 27 (.slice (some ⟨bq, oq, none⟩) fl.length c) := by rw [hWd]; exact x2
            have v3 : Boxed Wd (W1.heap.size + 1) 28 (.slice (some ⟨W1.heap.size, 0, none⟩) N N) := by rw [hWd]; exact x3
            have vN : Boxed Wd W2.heap.size 3 (.int .i64 (N : Int)) := by rw [hWd]; exact xN
            have vB : Below w.heap.size w Wd := by rw [hWd]; exact below_drewN (below_drewN hB _) _
            have vK : KeepsOthers W Wd := by rw [hWd]; exact keeps_bel (below_drewN (below_drewN (Below.refl _ _) nq) nq2)
            rw [← hWd]
            clear hWd k1 k2 k3 hr x1 x2 x3 hB cc1 cc2 hcq HQ
            have k3 := v3.cell
            gi_wp2
            gi_loopw [65] (fun i wr => ∃ q : Nat, q ≤ N ∧ i = .int .i64 q ∧ RowB wr W1.heap.size (natL N (parJ (labP fl pre) (b1 N x.1) (b2 N x.1) q)) ∧ Boxed wr w.heap.size 3 (.int .i64 (N : Int)) ∧ Boxed wr (w.heap.size + 1) 27 (.slice (some ⟨bq, oq, none⟩) fl.length c) ∧ Boxed wr (W1.heap.size + 1) 28 (.slice (some ⟨W1.heap.size, 0, none⟩) N N) ∧ Boxed wr W2.heap.size 3 (.int .i64 (N : Int)) ∧ Below w.heap.size w wr ∧ KeepsOthers W wr) (fun i _ => N - (intOf i).toNat)
            case atStart => exact ⟨0, Nat.zero_le _, rfl, by rw [par_zero]; exact vr, v1, v2, v3, vN, vB, vK⟩
            case round =>
              clear v1 v2 v3 vN vr vB vK k3
              obtain ⟨q, hq, rfl, vr, v1, v2, v3, vN, vB, vK⟩ := hrel
              by_cases hlt2 : q < N
              · have g1' : (q : Int) < (N : Int) := by omega
                have cc := vr.cell (k := q) (by simpa using hlt2)
                have ff := vr.free (k := q)
                rw [par_at _ _ _ hlt2] at cc
                have k3 := v3.cell
                by_cases he : labP fl pre q = max (labP fl pre (b1 N x.1)) (labP fl pre (b2 N x.1))
                · have he2 : ((labP fl pre q : Nat) : Int) = ((labP fl pre (b2 N x.1) : Nat) : Int) := by rw [he]; omega
                  have ez : (((labP fl pre q : Nat) : Int) == ((labP fl pre (b2 N x.1) : Nat) : Int)) = true := by simpa using he2
                  have HV := Lib.hid (vr.set (k := q) ((labP fl pre (b1 N x.1) : Nat) : Int))
                  have HP := Lib.hid (par_yes hlt2 he (z := ((labP fl pre (b1 N x.1) : Nat) : Int)) (by omega))
                  have H1 := Lib.hid (v1.other (show w.heap.size ≠ W1.heap.size by omega) (.int .i64 ((labP fl pre (b1 N x.1) : Nat) : Int)))
                  have X := Lib.hid (And.intro v1 (And.intro v2 (And.intro v3 (And.intro vN (And.intro vB (And.intro vK (KeepsOthers.setCell wr ⟨W1.heap.size, q, none⟩ (.int .i64 ((labP fl pre (b1 N x.1) : Nat) : Int)))))))))
                  clear he he2 vr v1 v2 v3 vN vB vK H1
                  gi_wp2
                  go_roundw
                  case rel => exact ⟨q + 1, by omega, by go_num, by rw [← HP.out]; exact HV.out, (Below.heap_setCell wr ⟨W1.heap.size, q, none⟩ _ w.heap.size (by show w.heap.size ≠ W1.heap.size; omega)).trans X.out.1, (Below.heap_setCell wr ⟨W1.heap.size, q, none⟩ _ (w.heap.size + 1) (by show w.heap.size + 1 ≠ W1.heap.size; omega)).trans X.out.2.1, (Below.heap_setCell wr ⟨W1.heap.size, q, none⟩ _ (W1.heap.size + 1) (by show W1.heap.size + 1 ≠ W1.heap.size; omega)).trans X.out.2.2.1, (Below.heap_setCell wr ⟨W1.heap.size, q, none⟩ _ W2.heap.size (by show W2.heap.size ≠ W1.heap.size; omega)).trans X.out.2.2.2.1, X.out.2.2.2.2.1.setCell (by show w.heap.size ≤ W1.heap.size; omega) _, X.out.2.2.2.2.2.1.trans X.out.2.2.2.2.2.2⟩
                  case measure => simp [intOf]; omega
                · have he2 : ¬ ((labP fl pre q : Nat) : Int) = ((labP fl pre (b2 N x.1) : Nat) : Int) := by omega
                  have ez : (((labP fl pre q : Nat) : Int) == ((labP fl pre (b2 N x.1) : Nat) : Int)) = false := by simpa using he2
                  have HP := Lib.hid (par_no (i := b1 N x.1) (j := b2 N x.1) hlt2 he)
                  have X := Lib.hid (And.intro vr (And.intro v1 (And.intro v2 (And.intro v3 (And.intro vN (And.intro vB vK))))))
                  clear he he2 vr v1 v2 v3 vN vB vK ff
                  gi_wp2
                  go_roundw
                  case rel => exact ⟨q + 1, by omega, by go_num, by rw [← HP.out]; exact X.out.1, X.out.2.1, X.out.2.2.1, X.out.2.2.2.1, X.out.2.2.2.2.1, X.out.2.2.2.2.2.1, X.out.2.2.2.2.2.2⟩
                  case measure => simp [intOf]; omega
              · obtain rfl : q = N := by omega
                have HP := Lib.hid (show natL q (labP fl (pre ++ [x])) = natL q (parJ (labP fl pre) (b1 q x.1) (b2 q x.1) q) by rw [par_all, HPn.out])
                have X := Lib.hid (And.intro vr (And.intro v1 (And.intro v2 (And.intro v3 (And.intro vN (And.intro vB (And.intro vK (show KpB W2.heap.size W wr from Eq.trans vN xN.symm))))))))
                clear vr v1 v2 v3 vN vB vK
                gi_wp2
                exact ⟨X.out.2.2.2.2.2.2.1.from _, X.out.2.2.2.2.2.2.2, by rw [HP.out]; exact X.out.1, X.out.2.1, X.out.2.2.1, X.out.2.2.2.1, X.out.2.2.2.2.1, X.out.2.2.2.2.2.1⟩
          · have hl1' : labP fl pre (b1 N x.1) ≤ labP fl pre (b2 N x.1) := Nat.le_of_eq heq
            have hl2' : labP fl pre (b2 N x.1) ≤ labP fl pre (b1 N x.1) := Nat.le_of_eq heq.symm
            rw [← heq] at cc2
            clear heq
            gi_wp2_with fail
            refine round_quiet (by kernel_rfl) (by kernel_rfl) (by rintro ⟨_, _, x⟩; exact x) (by kernel_rfl) ?_
            repeat (go_big_quiet_step (fail))
            refine wpQuiet_nil ?_
            intro _ hw'
            obtain ⟨nq2, hw''⟩ := hw'
            subst hw''
            obtain ⟨Wd, hWd⟩ : ∃ W' : World, W' = (W.drewN nq).drewN nq2 := ⟨_, rfl⟩
            have vr : RowB Wd W1.heap.size (natL N (labP fl pre)) := by rw [hWd]; exact hr
            have v1 : Boxed Wd w.heap.size 3 (.int .i64 (N : Int)) := by rw [hWd]; exact x1
            have v2 : Boxed Wd (w.heap.size + 1) 27 (.slice (some ⟨bq, oq, none⟩) fl.length c) := by rw [hWd]; exact x2
            have v3 : Boxed Wd (W1.heap.size + 1) 28 (.slice (some ⟨W1.heap.size, 0, none⟩) N N) := by rw [hWd]; exact x3
            have vN : Boxed Wd W2.heap.size 3 (.int .i64 (N : Int)) := by rw [hWd]; exact xN
            have vB : Below w.heap.size w Wd := by rw [hWd]; exact below_drewN (below_drewN hB _) _
            have vK : KeepsOthers W Wd := by rw [hWd]; exact keeps_bel (below_drewN (below_drewN (Below.refl _ _) nq) nq2)
            rw [← hWd]
            clear hWd k1 k2 k3 hr x1 x2 x3 hB cc1 cc2 hcq HQ
            have k3 := v3.cell
            gi_wp2
            gi_loopw [65] (fun i wr => ∃ q : Nat, q ≤ N ∧ i = .int .i64 q ∧ RowB wr W1.heap.size (natL N (parJ (labP fl pre) (b1 N x.1) (b2 N x.1) q)) ∧ Boxed wr w.heap.size 3 (.int .i64 (N : Int)) ∧ Boxed wr (w.heap.size + 1) 27 (.slice (some ⟨bq, oq, none⟩) fl.length c) ∧ Boxed wr (W1.heap.size + 1) 28 (.slice (some ⟨W1.heap.size, 0, none⟩) N N) ∧ Boxed wr W2.heap.size 3 (.int .i64 (N : Int)) ∧ Below w.heap.size w wr ∧ KeepsOthers W wr) (fun i _ => N - (intOf i).toNat)
            case atStart => exact ⟨0, Nat.zero_le _, rfl, by rw [par_zero]; exact vr, v1, v2, v3, vN, vB, vK⟩
            case round =>
              clear v1 v2 v3 vN vr vB vK k3
              obtain ⟨q, hq, rfl, vr, v1, v2, v3, vN, vB, vK⟩ := hrel
              by_cases hlt2 : q < N
              · have g1' : (q : Int) < (N : Int) := by omega
                have cc := vr.cell (k := q) (by simpa using hlt2)
                have ff := vr.free (k := q)
                rw [par_at _ _ _ hlt2] at cc
                have k3 := v3.cell
                by_cases he : labP fl pre q = max (labP fl pre (b1 N x.1)) (labP fl pre (b2 N x.1))
                · have he2 : ((labP fl pre q : Nat) : Int) = ((labP fl pre (b1 N x.1) : Nat) : Int) := by rw [he]; omega
                  have ez : (((labP fl pre q : Nat) : Int) == ((labP fl pre (b1 N x.1) : Nat) : Int)) = true := by simpa using he2
                  have HV := Lib.hid (vr.set (k := q) ((labP fl pre (b1 N x.1) : Nat) : Int))
                  have HP := Lib.hid (par_yes hlt2 he (z := ((labP fl pre (b1 N x.1) : Nat) : Int)) (by omega))
                  have H1 := Lib.hid (v1.other (show w.heap.size ≠ W1.heap.size by omega) (.int .i64 ((labP fl pre (b1 N x.1) : Nat) : Int)))
                  have X := Lib.hid (And.intro v1 (And.intro v2 (And.intro v3 (And.intro vN (And.intro vB (And.intro vK (KeepsOthers.setCell wr ⟨W1.heap.size, q, none⟩ (.int .i64 ((labP fl pre (b1 N x.1) : Nat) : Int)))))))))
                  clear he he2 vr v1 v2 v3 vN vB vK H1
                  gi_wp2
                  go_roundw
                  case rel => exact ⟨q + 1, by omega, by go_num, by rw [← HP.out]; exact HV.out, (Below.heap_setCell wr ⟨W1.heap.size, q, none⟩ _ w.heap.size (by show w.heap.size ≠ W1.heap.size; omega)).trans X.out.1, (Below.heap_setCell wr ⟨W1.heap.size, q, none⟩ _ (w.heap.size + 1) (by show w.heap.size + 1 ≠ W1.heap.size; omega)).trans X.out.2.1, (Below.heap_setCell wr ⟨W1.heap.size, q, none⟩ _ (W1.heap.size + 1) (by show W1.heap.size + 1 ≠ W1.heap.size; omega)).trans X.out.2.2.1, (Below.heap_setCell wr ⟨W1.heap.size, q, none⟩ _ W2.heap.size (by show W2.heap.size ≠ W1.heap.size; omega)).trans X.out.2.2.2.1, X.out.2.2.2.2.1.setCell (by show w.heap.size ≤ W1.heap.size; omega) _, X.out.2.2.2.2.2.1.trans X.out.2.2.2.2.2.2⟩
                  case measure => simp [intOf]; omega
                · have he2 : ¬ ((labP fl pre q : Nat) : Int) = ((labP fl pre (b1 N x.1) : Nat) : Int) := by omega
                  have ez : (((labP fl pre q : Nat) : Int) == ((labP fl pre (b1 N x.1) : Nat) : Int)) = false := by simpa using he2
                  have HP := Lib.hid (par_no (i := b1 N x.1) (j := b2 N x.1) hlt2 he)
                  have X := Lib.hid (And.intro vr (And.intro v1 (And.intro v2 (And.intro v3 (And.intro vN (And.intro vB vK))))))
                  clear he he2 vr v1 v2 v3 vN vB vK ff
                  gi_wp2
                  go_roundw
                  case rel => exact ⟨q + 1, by omega, by go_num, by rw [← HP.out]; exact X.out.1, X.out.2.1, X.out.2.2.1, X.out.2.2.2.1, X.out.2.2.2.2.1, X.out.2.2.2.2.2.1, X.out.2.2.2.2.2.2⟩
                  case measure => simp [intOf]; omega
              · obtain rfl : q = N := by omega
                have HP := Lib.hid (show natL q (labP fl (pre ++ [x])) = natL q (parJ (labP fl pre) (b1 q x.1) (b2 q x.1) q) by rw [par_all, HPn.out])
                have X := Lib.hid (And.intro vr (And.intro v1 (And.intro v2 (And.intro v3 (And.intro vN (And.intro vB (And.intro vK (show KpB W2.heap.size W wr from Eq.trans vN xN.symm))))))))
                clear vr v1 v2 v3 vN vB vK
                gi_wp2
                exact ⟨X.out.2.2.2.2.2.2.1.from _, X.out.2.2.2.2.2.2.2, by rw [HP.out]; exact X.out.1, X.out.2.1, X.out.2.2.1, X.out.2.2.2.1, X.out.2.2.2.2.1, X.out.2.2.2.2.2.1⟩
          · have hle' : ((labP fl pre (b2 N x.1) : Nat) : Int) < ((labP fl pre (b1 N x.1) : Nat) : Int) := by omega
            have hle2 : ¬ ((labP fl pre (b1 N x.1) : Nat) : Int) ≤ ((labP fl pre (b2 N x.1) : Nat) : Int) := by omega
            gi_wp2_with fail
            refine round_quiet (by kernel_rfl) (by kernel_rfl) (by rintro ⟨_, _, x⟩; exact x) (by kernel_rfl) ?_
            repeat (go_big_quiet_step (fail))
            refine wpQuiet_nil ?_
            intro _ hw'
            obtain ⟨nq2, hw''⟩ := hw'
            subst hw''
            obtain ⟨Wd, hWd⟩ : ∃ W' : World, W' = (W.drewN nq).drewN nq2 := ⟨_, rfl⟩
            have vr : RowB Wd W1.heap.size (natL N (labP fl pre)) := by rw [hWd]; exact hr
            have v1 : Boxed Wd w.heap.size 3 (.int .i64 (N : Int)) := by rw [hWd]; exact x1
            have v2 : Boxed Wd (w.heap.size + 1) 27 (.slice (some ⟨bq, oq, none⟩) fl.length c) := by rw [hWd]; exact x2
            have v3 : Boxed Wd (W1.heap.size + 1) 28 (.slice (some ⟨W1.heap.size, 0, none⟩) N N) := by rw [hWd]; exact x3
            have vN : Boxed Wd W2.heap.size 3 (.int .i64 (N : Int)) := by rw [hWd]; exact xN
            have vB : Below w.heap.size w Wd := by rw [hWd]; exact below_drewN (below_drewN hB _) _
            have vK : KeepsOthers W Wd := by rw [hWd]; exact keeps_bel (below_drewN (below_drewN (Below.refl _ _) nq) nq2)
            rw [← hWd]
            clear hWd k1 k2 k3 hr x1 x2 x3 hB cc1 cc2 hcq HQ
            have k3 := v3.cell
            gi_wp2
            gi_loopw [65] (fun i wr => ∃ q : Nat, q ≤ N ∧ i = .int .i64 q ∧ RowB wr W1.heap.size (natL N (parJ (labP fl pre) (b1 N x.1) (b2 N x.1) q)) ∧ Boxed wr w.heap.size 3 (.int .i64 (N : Int)) ∧ Boxed wr (w.heap.size + 1) 27 (.slice (some ⟨bq, oq, none⟩) fl.length c) ∧ Boxed wr (W1.heap.size + 1) 28 (.slice (some ⟨W1.heap.size, 0, none⟩) N N) ∧ Boxed wr W2.heap.size 3 (.int .i64 (N : Int)) ∧ Below w.heap.size w wr ∧ KeepsOthers W wr) (fun i _ => N - (intOf i).toNat)
            case atStart => exact ⟨0, Nat.zero_le _, rfl, by rw [par_zero]; exact vr, v1, v2, v3, vN, vB, vK⟩
            case round =>
              clear v1 v2 v3 vN vr vB vK k3
              obtain ⟨q, hq, rfl, vr, v1, v2, v3, vN, vB, vK⟩ := hrel
              by_cases hlt2 : q < N
              · have g1' : (q : Int) < (N : Int) := by omega
                have cc := vr.cell (k := q) (by simpa using hlt2)
                have ff := vr.free (k := q)
                rw [par_at _ _ _ hlt2] at cc
                have k3 := v3.cell
                by_cases he : labP fl pre q = max (labP fl pre (b1 N x.1)) (labP fl pre (b2 N x.1))
                · have he2 : ((labP fl pre q : Nat) : Int) = ((labP fl pre (b1 N x.1) : Nat) : Int) := by rw [he]; omega
                  have ez : (((labP fl pre q : Nat) : Int) == ((labP fl pre (b1 N x.1) : Nat) : Int)) = true := by simpa using he2
                  have HV := Lib.hid (vr.set (k := q) ((labP fl pre (b2 N x.1) : Nat) : Int))
                  have HP := Lib.hid (par_yes hlt2 he (z := ((labP fl pre (b2 N x.1) : Nat) : Int)) (by omega))
                  have H1 := Lib.hid (v1.other (show w.heap.size ≠ W1.heap.size by omega) (.int .i64 ((labP fl pre (b2 N x.1) : Nat) : Int)))
                  have X := Lib.hid (And.intro v1 (And.intro v2 (And.intro v3 (And.intro vN (And.intro vB (And.intro vK (KeepsOthers.setCell wr ⟨W1.heap.size, q, none⟩ (.int .i64 ((labP fl pre (b2 N x.1) : Nat) : Int)))))))))
                  clear he he2 vr v1 v2 v3 vN vB vK H1
                  gi_wp2
                  go_roundw
                  case rel => exact ⟨q + 1, by omega, by go_num, by rw [← HP.out]; exact HV.out, (Below.heap_setCell wr ⟨W1.heap.size, q, none⟩ _ w.heap.size (by show w.heap.size ≠ W1.heap.size; omega)).trans X.out.1, (Below.heap_setCell wr ⟨W1.heap.size, q, none⟩ _ (w.heap.size + 1) (by show w.heap.size + 1 ≠ W1.heap.size; omega)).trans X.out.2.1, (Below.heap_setCell wr ⟨W1.heap.size, q, none⟩ _ (W1.heap.size + 1) (by show W1.heap.size + 1 ≠ W1.heap.size; omega)).trans X.out.2.2.1, (Below.heap_setCell wr ⟨W1.heap.size, q, none⟩ _ W2.heap.size (by show W2.heap.size ≠ W1.heap.size; omega)).trans X.out.2.2.2.1, X.out.2.2.2.2.1.setCell (by show w.heap.size ≤ W1.heap.size; omega) _, X.out.2.2.2.2.2.1.trans X.out.2.2.2.2.2.2⟩
                  case measure => simp [intOf]; omega
                · have he2 : ¬ ((labP fl pre q : Nat) : Int) = ((labP fl pre (b1 N x.1) : Nat) : Int) := by omega
                  have ez : (((labP fl pre q : Nat) : Int) == ((labP fl pre (b1 N x.1) : Nat) : Int)) = false := by simpa using he2
                  have HP := Lib.hid (par_no (i := b1 N x.1) (j := b2 N x.1) hlt2 he)
                  have X := Lib.hid (And.intro vr (And.intro v1 (And.intro v2 (And.intro v3 (And.intro vN (And.intro vB vK))))))
                  clear he he2 vr v1 v2 v3 vN vB vK ff
                  gi_wp2
                  go_roundw
                  case rel => exact ⟨q + 1, by omega, by go_num, by rw [← HP.out]; exact X.out.1, X.out.2.1, X.out.2.2.1, X.out.2.2.2.1, X.out.2.2.2.2.1, X.out.2.2.2.2.2.1, X.out.2.2.2.2.2.2⟩
                  case measure => simp [intOf]; omega
              · obtain rfl : q = N := by omega
                have HP := Lib.hid (show natL q (labP fl (pre ++ [x])) = natL q (parJ (labP fl pre) (b1 q x.1) (b2 q x.1) q) by rw [par_all, HPn.out])
                have X := Lib.hid (And.intro vr (And.intro v1 (And.intro v2 (And.intro v3 (And.intro vN (And.intro vB (And.intro vK (show KpB W2.heap.size W wr from Eq.trans vN xN.symm))))))))
                clear vr v1 v2 v3 vN vB vK
                gi_wp2
                exact ⟨X.out.2.2.2.2.2.2.1.from _, X.out.2.2.2.2.2.2.2, by rw [HP.out]; exact X.out.1, X.out.2.1, X.out.2.2.1, X.out.2.2.2.1, X.out.2.2.2.2.1, X.out.2.2.2.2.2.1⟩
      case done =>
        rintro D ys W hD hall ⟨hr, x1, x2, x3, xN, hB⟩ hK
        rw [labP_all hall] at hr
        have k3 := x3.cell
        have HE := Lib.hid (show linkL (N : Int) fl = natL N (lab N fl) from HR.out)
        have HZ := Lib.hid (show (linkL (N : Int) fl).length = N by rw [HR.out]; simp)
        have X := Lib.hid (And.intro hr hB)
        clear hr x1 x2 xN hB r3 q1 q2 q3 bN bw3
        gi_wp2
        refine ⟨by simp, .inl ⟨_, _, rfl, run_takeDeferred hK, ⟨_, results_tmp rfl _ _ _, ?_⟩⟩⟩
        refine ⟨some ⟨W1.heap.size, 0, none⟩, N, by rw [HZ.out]; rfl, by rw [HZ.out]; exact Nat.le_refl _, fun e => ?_, (fun _ e => by cases e), ?_, X.out.2.trans (belowK_b (w := w) (Nat.le_refl _) _ D _ _ (by omega) hK rfl rfl)⟩
        · have := HZ.out
          rw [e] at this
          simp at this
          omega
        · rw [HE.out]
          exact (X.out.1.putObj hK).ow (by omega) (by rw [World.putObj_size]; exact X.out.1.lt)
      case stop =>
        rintro D c pre W _ _ h _
        exact h.elim
end Go.Proofs.Ytopneihamefohaa
