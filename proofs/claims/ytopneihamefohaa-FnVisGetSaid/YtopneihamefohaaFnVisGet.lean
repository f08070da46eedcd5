/- A visibility has both directions. For every input; each argument reads afterwards as it read before. -/
import Derived.Test.YtopneihamefohaaFrame
import Derived.Test.YtopneihamefohaaGet
import Derived.Test.YtopneihamefohaaDrawVis
namespace Go.Proofs.Ytopneihamefohaa.fnVisGet
open Go.ChangeShapes Go.WideShapes Go.ChangeAt Go.RowKit Go.Deep
set_option linter.unusedVariables false

set_option maxHeartbeats 4000000 in
set_option maxRecDepth 100000 in
theorem walk (w : World) (a0 : Option Addr) (len0 cap0 : Nat) (h0 : Bytes w a0 len0 w.heap.size) (k0 : len0 ≤ cap0) :
    Calls Try.prog 10 #[.slice a0 len0 cap0] w fun e w' => e = .returned (.bool true) ∧ Below w.heap.size w w' := by
  by_cases g0 : len0 ≤ 1048576
  case neg =>
    go_enter Try.func10, Try.ntmps10
    go_wp2
    go_ret
    exact ⟨rfl, Below.refl _ _⟩
  case pos =>
    have B := Below.refl w.heap.size w
    go_enter Try.func10, Try.ntmps10
    go_wp2_with fail
    refine (DrawVisGet_any _ _ _ _ h0 k0).mono ?_
    rintro e w1 ⟨N, A, c, ps, i, j, rfl, n2, n6, lp, i0, i1, j0, j1, o, b1⟩
    have s1 := b1.size
    replace B := bel_trans B b1
    clear b1
    go_wp2_with fail
    refine (VisGet_any _ _ _ _ _ _ _ o.rd (by omega) rfl).mono ?_
    rintro e w2 ⟨rfl, b2⟩
    have s2 := b2.size
    replace B := bel_trans B b2
    replace o := o.below b2 (by omega)
    clear b2
    obtain ⟨w3, hW⟩ : ∃ W : World, W = w2.alloc (.cells #[.int .i64 ((visGet (N : Int) ps i j).1.1), .int .i64 ((visGet (N : Int) ps i j).1.2)] 44) := ⟨_, rfl⟩
    have b3 : Below w2.heap.size w2 w3 := by rw [hW]; exact (Below.refl _ _).alloc (Nat.le_refl _) _
    have x0 : BoxV w3 w2.heap.size ((visGet (N : Int) ps i j).1.1) ((visGet (N : Int) ps i j).1.2) := by unfold BoxV; rw [hW]; exact heap_alloc_new _ _
    have s3 := b3.size
    replace B := bel_trans B b3
    replace o := o.below b3 (by omega)
    clear b3
    go_wp2_with fail
    rw [← hW]
    clear hW
    refine (sVisGet_any _ _ _ _ _ _ _ o.rd (by omega) rfl).mono ?_
    rintro e w4 ⟨rfl, b4⟩
    have s4 := b4.size
    replace B := bel_trans B b4
    replace o := o.below b4 (by omega)
    replace x0 := x0.below b4 (by omega)
    clear b4
    obtain ⟨w5, hW⟩ : ∃ W : World, W = w4.alloc (.cells #[.int .i64 (visGet (N : Int) ps i j).1.1, .int .i64 (visGet (N : Int) ps i j).1.2] 44) := ⟨_, rfl⟩
    have b5 : Below w4.heap.size w4 w5 := by rw [hW]; exact (Below.refl _ _).alloc (Nat.le_refl _) _
    have x1 : BoxV w5 w4.heap.size (visGet (N : Int) ps i j).1.1 (visGet (N : Int) ps i j).1.2 := by unfold BoxV; rw [hW]; exact heap_alloc_new _ _
    have s5 := b5.size
    replace B := bel_trans B b5
    replace o := o.below b5 (by omega)
    replace x0 := x0.below b5 (by omega)
    clear b5
    obtain ⟨c0, c1, _⟩ := two_cells x0
    obtain ⟨c2, c3, _⟩ := two_cells x1
    rw [hW] at c0 c1 c2 c3
    have heq := eqInVis (visGet (N : Int) ps i j).1.1 (visGet (N : Int) ps i j).1.2 (visGet (N : Int) ps i j).1.1 (visGet (N : Int) ps i j).1.2
    rw [decide_eq_true ⟨rfl, rfl⟩] at heq
    have hgd := guardVis .neq (.tmp 43) (.tmp 44) #[.int .i64 (visGet (N : Int) ps i j).1.1, .int .i64 (visGet (N : Int) ps i j).1.2] #[.int .i64 (visGet (N : Int) ps i j).1.1, .int .i64 (visGet (N : Int) ps i j).1.2]
    have hgd2 := guardVis .eql (.tmp 55) (.tmp 56) #[.int .i64 (visGet (N : Int) ps i j).1.1, .int .i64 (visGet (N : Int) ps i j).1.2] #[.int .i64 (visGet (N : Int) ps i j).1.1, .int .i64 (visGet (N : Int) ps i j).1.2]
    cases hok : (visGet (N : Int) ps i j).2 with
    | false =>
      go_wp2
      rw [← hW]
      go_ret
      exact ⟨rfl, B⟩
    | true =>
    obtain ⟨N', I, J, hN', rfl, rfl, m2, m7, hI, hJ, hne, hv⟩ := get_ok hok
    obtain rfl : N = N' := by omega
    obtain ⟨g1', g2', g3', g4'⟩ := get_swap m2 m7 hI hJ hne hv
    have HG2 := Lib.hid g2'
    have HG1 := Lib.hid g1'
    clear hN' hgd2 g2' g1'
    have HN := Lib.hid hne
    clear hne
    go_wp2_with fail
    rw [← hW]
    clear hW c0 c1 c2 c3 heq hgd
    refine (VisGet_any _ _ _ _ _ _ _ o.rd (by omega) rfl).mono ?_
    rintro e w6 ⟨rfl, b6⟩
    have s6 := b6.size
    replace B := bel_trans B b6
    replace o := o.below b6 (by omega)
    replace x0 := x0.below b6 (by omega)
    replace x1 := x1.below b6 (by omega)
    clear b6
    rw [HG1.out]
    obtain ⟨c0, c1, _, _, hl0⟩ := two_cells x0
    rw [HG2.out] at c0 c1
    have ba := bel_cell ((Below.refl w6.heap.size w6).alloc (Nat.le_refl _) (.cells #[.int .i64 (g1 ps (gk N I J)), .int .i64 (-(vph ps N I J) % 360)] 44)) hl0 c0
    have bb := bel_cell ((Below.refl w6.heap.size w6).alloc (Nat.le_refl _) (.cells #[.int .i64 (g1 ps (gk N I J)), .int .i64 (-(vph ps N I J) % 360)] 44)) hl0 c1
    have hq := Lib.hid (quiet_phase (-(vph ps N I J)))
    generalize vph ps N I J = Y at *
    generalize g1 ps (gk N I J) = X at *
    go_wp2
    have e1 : IntKind.i64.wrap (-Y) = -Y := IntWalk.i64_in _ (by omega)
    go_quiet ((go_at_call 39; exact hq.out _))
    clear e1
    go_wp2
    go_ret
    exact ⟨rfl, below_drewN (B.alloc B.size _) _⟩

set_option maxRecDepth 100000 in
theorem lifted (os : Os) (started : os.Started) (H : Type) (enc : TypeId × Value → H) :
    ReturnsInHanded {} Try.checked os 10 .any (Rows.fnVisGetSpec.pre6 enc Try.prog Try.f10 Rows.fnVisGetRow.domain false) (Rows.fnVisGetSpec.post enc Try.prog Try.f10 false true false false) := by
  refine returnsInHanded_of_change (C := Try.checked) own started (by kernel_rfl) Try.func10
    (ChangeSpec.witness6 (enc := enc) (C := Try.checked) false ⟨#[], #[.slice none 0 0], []⟩ 8 (by kernel_rfl) (by kernel_rfl) (by kernel_rfl) (by kernel_rfl)) ?_
  intro W base args ds gs before hval0 hW hcnd _
  have hval : ∀ (j : Nat) t v, Try.f10.params[j]? = some t → args[j]? = some v → Value.okWide Try.prog W .any base t v := hval0
  have hW' := hW
  obtain ⟨p, q, hA0, hV, rfl, hfz, hnd⟩ := hW
  have hA : DataW.TrodAll enc Try.prog W 0 (fun _ => true) true Try.f10.params.toList args.toList ds p := hA0
  rw [Try.params10] at hA hval
  obtain ⟨v0, vs0, d0, ds0, p0, q0, hargs, rfl, rfl, h0, r0⟩ := trodAll_cons hA
  obtain ⟨rfl, rfl, rfl⟩ := trodAll_nil r0
  obtain rfl : args = #[v0] := by cases args; simp_all
  obtain ⟨rfl, rfl⟩ := trodVars_none hV
  obtain ⟨a0, len0, cap0, rfl⟩ := okWide_slice Try.underlying24 (hval 0 24 v0 rfl rfl)
  have k0 := h0
  have lt0 : ∀ x ∈ p0, x.block < W.heap.size := by obtain ⟨m, hm⟩ := k0; exact DataW.trod_lt m _ _ _ hm
  obtain ⟨z0, n0, u0, f0, c0⟩ := in_ints Try.underlying24 Try.underlying5 (by kernel_rfl) h0
  have w0 := Rd.bytes u0 n0 f0
  clear hA0 hval0
  refine (walk W a0 len0 cap0 w0 c0).mono fun e W' ⟨he, bel⟩ => ?_
  subst he
  exact ⟨_, rfl, _, _, _, [], _, [], hW', trodAll_mk1 (shut_bool Try.underlying4 _), (trodAll_cons_mk (Below.trod laidOut (by kernel_rfl) (of_decide_eq_true (by kernel_rfl)) k0 bel lt0) trodAll_mk0), rfl, bel.frame _, fun h => by cases h⟩

theorem over : Rows.fnVisGetRow.holds Try.pinned (OpenSpec.ofChange Rows.fnVisGetSpec) :=
  OpenClaim.holds_of_wide 10 Try.f10 rfl rfl rfl rfl rfl rfl rfl ⟨rfl, rfl, rfl, rfl, rfl⟩ rfl rfl rfl rfl rfl (by kernel_rfl) Try.func10 (by kernel_rfl)
    (of_decide_eq_true (by kernel_rfl)) (by unfold Func.isWrapper; first | (rw [if_pos (by decide +kernel)]; kernel_rfl) | (rw [if_neg (by decide +kernel)]; exact ⟨rfl, rfl⟩))
    (fun os started H enc _ => lifted os started H enc)

theorem proved : Rows.FnVisGetSaid := over
#print axioms proved
end Go.Proofs.Ytopneihamefohaa.fnVisGet
