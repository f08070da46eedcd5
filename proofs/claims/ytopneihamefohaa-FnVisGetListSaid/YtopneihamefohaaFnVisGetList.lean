/- Visibilities stand in order. For every input; each argument reads afterwards as it read before. -/
import Derived.Test.YtopneihamefohaaFrame
import Derived.Test.YtopneihamefohaaGet
import Derived.Test.YtopneihamefohaaDrawVis
namespace Go.Proofs.Ytopneihamefohaa.fnVisGetList
open Go.ChangeShapes Go.WideShapes Go.ChangeAt Go.RowKit Go.Deep
set_option linter.unusedVariables false

set_option maxHeartbeats 4000000 in
set_option maxRecDepth 100000 in
theorem walk (w : World) (a0 : Option Addr) (len0 cap0 : Nat) (h0 : Bytes w a0 len0 w.heap.size) (k0 : len0 ≤ cap0) :
    Calls Try.prog 12 #[.slice a0 len0 cap0] w fun e w' => e = .returned (.bool true) ∧ Below w.heap.size w w' := by
  by_cases g0 : len0 ≤ 1048576
  case neg =>
    go_enter Try.func12, Try.ntmps12
    go_wp2
    go_ret
    exact ⟨rfl, Below.refl _ _⟩
  case pos =>
    have B := Below.refl w.heap.size w
    go_enter Try.func12, Try.ntmps12
    go_wp2_with fail
    refine (DrawVisGet_any _ _ _ _ h0 k0).mono ?_
    rintro e w1 ⟨N, A, c, ps, i, j, rfl, n2, n6, lp, i0, i1, j0, j1, o, b1⟩
    have s1 := b1.size
    replace B := bel_trans B b1
    clear b1
    go_wp2_with fail
    refine (VisGet_any _ _ _ _ _ _ _ o.rd (by omega) rfl).mono ?_
    rintro e w2 ⟨rfl, b2⟩
    have s2 := b2.size
    replace B := bel_trans B b2
    replace o := o.below b2 (by omega)
    clear b2
    obtain ⟨w3, hW⟩ : ∃ W : World, W = w2.alloc (.cells #[.int .i64 ((visGet (N : Int) ps i j).1.1), .int .i64 ((visGet (N : Int) ps i j).1.2)] 44) := ⟨_, rfl⟩
    have b3 : Below w2.heap.size w2 w3 := by rw [hW]; exact (Below.refl _ _).alloc (Nat.le_refl _) _
    have x0 : BoxV w3 w2.heap.size ((visGet (N : Int) ps i j).1.1) ((visGet (N : Int) ps i j).1.2) := by unfold BoxV; rw [hW]; exact heap_alloc_new _ _
    have s3 := b3.size
    replace B := bel_trans B b3
    replace o := o.below b3 (by omega)
    clear b3
    go_wp2_with fail
    rw [← hW]
    clear hW
    refine (sVisGet_any _ _ _ _ _ _ _ o.rd (by omega) rfl).mono ?_
    rintro e w4 ⟨rfl, b4⟩
    have s4 := b4.size
    replace B := bel_trans B b4
    replace o := o.below b4 (by omega)
    replace x0 := x0.below b4 (by omega)
    clear b4
    obtain ⟨w5, hW⟩ : ∃ W : World, W = w4.alloc (.cells #[.int .i64 (visGet (N : Int) ps i j).1.1, .int .i64 (visGet (N : Int) ps i j).1.2] 44) := ⟨_, rfl⟩
    have b5 : Below w4.heap.size w4 w5 := by rw [hW]; exact (Below.refl _ _).alloc (Nat.le_refl _) _
    have x1 : BoxV w5 w4.heap.size (visGet (N : Int) ps i j).1.1 (visGet (N : Int) ps i j).1.2 := by unfold BoxV; rw [hW]; exact heap_alloc_new _ _
    have s5 := b5.size
    replace B := bel_trans B b5
    replace o := o.below b5 (by omega)
    replace x0 := x0.below b5 (by omega)
    clear b5
    obtain ⟨c0, c1, _⟩ := two_cells x0
    obtain ⟨c2, c3, _⟩ := two_cells x1
    rw [hW] at c0 c1 c2 c3
    have heq := eqInVis (visGet (N : Int) ps i j).1.1 (visGet (N : Int) ps i j).1.2 (visGet (N : Int) ps i j).1.1 (visGet (N : Int) ps i j).1.2
    rw [decide_eq_true ⟨rfl, rfl⟩] at heq
    have hgd := guardVis .neq (.tmp 42) (.tmp 43) #[.int .i64 (visGet (N : Int) ps i j).1.1, .int .i64 (visGet (N : Int) ps i j).1.2] #[.int .i64 (visGet (N : Int) ps i j).1.1, .int .i64 (visGet (N : Int) ps i j).1.2]
    have hgd2 := guardVis .eql (.tmp 54) (.tmp 55) #[.int .i64 (visGet (N : Int) ps i j).1.1, .int .i64 (visGet (N : Int) ps i j).1.2] #[.int .i64 (visGet (N : Int) ps i j).1.1, .int .i64 (visGet (N : Int) ps i j).1.2]
    cases hok : (visGet (N : Int) ps i j).2 with
    | false =>
      go_wp2
      rw [← hW]
      go_ret
      exact ⟨rfl, B⟩
    | true =>
    obtain ⟨N', I, J, hN', rfl, rfl, m2, m7, hI, hJ, hne, hv⟩ := get_ok hok
    obtain rfl : N = N' := by omega
    obtain ⟨g1', g2', g3', g4'⟩ := get_swap m2 m7 hI hJ hne hv
    obtain ⟨k1, k2, k3, k4, k5⟩ := at_gk (n := 0) hv m7 hI hJ hne
    have HG2 := Lib.hid g2'
    have HB := Lib.hid (bi_mk m2 m7 hI hJ hne)
    have HN := Lib.hid hne
    clear hN' hgd2 g2' g1' hne
    go_wp2_with (go_at_call 31; refine (BaseIndex_any _ _ _ _).mono ?_; rintro e w' ⟨rfl, rfl⟩; rw [HB.out])
    rw [← hW]
    clear hW c0 c1 c2 c3 heq hgd
    obtain ⟨c0, c1, _, _, hl0⟩ := two_cells x0
    obtain ⟨qb, qo, rfl, hqb, d0, d1⟩ := o.rd.pair_at k1
    rw [HG2.out] at c0 c1
    have i2 : ((gk N I J : Nat) : Int) < (ps.length : Int) := by omega
    have i3 : decide ((0 : Int) ≤ ((gk N I J : Nat) : Int)) = true := by simp
    by_cases hij : J < I
    · have e0 : decide ((J : Int) < (I : Int)) = true := by simp; omega
      generalize vph ps N I J = Y at *
      generalize gk N I J = k at *
      go_quiet (fail)
      go_wp2
      go_ret
      exact ⟨rfl, below_drewN B _⟩
    · have hij' : I < J := by have := HN.out; omega
      rw [vph_lt hij'] at c1
      have e0 : decide ((J : Int) < (I : Int)) = false := by simp; omega
      generalize gk N I J = k at *
      have heq := eqInVis (g1 ps k) (g2 ps k) (g1 ps k) (g2 ps k)
      rw [decide_eq_true ⟨rfl, rfl⟩] at heq
      have hgd := guardVis .eql (.tmp 72) (.tmp 73) #[.int .i64 (g1 ps k), .int .i64 (g2 ps k)] #[.int .i64 (g1 ps k), .int .i64 (g2 ps k)]
      go_quiet (fail)
      go_wp2
      go_ret
      exact ⟨rfl, below_drewN B _⟩

set_option maxRecDepth 100000 in
theorem lifted (os : Os) (started : os.Started) (H : Type) (enc : TypeId × Value → H) :
    ReturnsInHanded {} Try.checked os 12 .any (Rows.fnVisGetListSpec.pre6 enc Try.prog Try.f12 Rows.fnVisGetListRow.domain false) (Rows.fnVisGetListSpec.post enc Try.prog Try.f12 false true false false) := by
  refine returnsInHanded_of_change (C := Try.checked) own started (by kernel_rfl) Try.func12
    (ChangeSpec.witness6 (enc := enc) (C := Try.checked) false ⟨#[], #[.slice none 0 0], []⟩ 8 (by kernel_rfl) (by kernel_rfl) (by kernel_rfl) (by kernel_rfl)) ?_
  intro W base args ds gs before hval0 hW hcnd _
  have hval : ∀ (j : Nat) t v, Try.f12.params[j]? = some t → args[j]? = some v → Value.okWide Try.prog W .any base t v := hval0
  have hW' := hW
  obtain ⟨p, q, hA0, hV, rfl, hfz, hnd⟩ := hW
  have hA : DataW.TrodAll enc Try.prog W 0 (fun _ => true) true Try.f12.params.toList args.toList ds p := hA0
  rw [Try.params12] at hA hval
  obtain ⟨v0, vs0, d0, ds0, p0, q0, hargs, rfl, rfl, h0, r0⟩ := trodAll_cons hA
  obtain ⟨rfl, rfl, rfl⟩ := trodAll_nil r0
  obtain rfl : args = #[v0] := by cases args; simp_all
  obtain ⟨rfl, rfl⟩ := trodVars_none hV
  obtain ⟨a0, len0, cap0, rfl⟩ := okWide_slice Try.underlying24 (hval 0 24 v0 rfl rfl)
  have k0 := h0
  have lt0 : ∀ x ∈ p0, x.block < W.heap.size := by obtain ⟨m, hm⟩ := k0; exact DataW.trod_lt m _ _ _ hm
  obtain ⟨z0, n0, u0, f0, c0⟩ := in_ints Try.underlying24 Try.underlying5 (by kernel_rfl) h0
  have w0 := Rd.bytes u0 n0 f0
  clear hA0 hval0
  refine (walk W a0 len0 cap0 w0 c0).mono fun e W' ⟨he, bel⟩ => ?_
  subst he
  exact ⟨_, rfl, _, _, _, [], _, [], hW', trodAll_mk1 (shut_bool Try.underlying4 _), (trodAll_cons_mk (Below.trod laidOut (by kernel_rfl) (of_decide_eq_true (by kernel_rfl)) k0 bel lt0) trodAll_mk0), rfl, bel.frame _, fun h => by cases h⟩

theorem over : Rows.fnVisGetListRow.holds Try.pinned (OpenSpec.ofChange Rows.fnVisGetListSpec) :=
  OpenClaim.holds_of_wide 12 Try.f12 rfl rfl rfl rfl rfl rfl rfl ⟨rfl, rfl, rfl, rfl, rfl⟩ rfl rfl rfl rfl rfl (by kernel_rfl) Try.func12 (by kernel_rfl)
    (of_decide_eq_true (by kernel_rfl)) (by unfold Func.isWrapper; first | (rw [if_pos (by decide +kernel)]; kernel_rfl) | (rw [if_neg (by decide +kernel)]; exact ⟨rfl, rfl⟩))
    (fun os started H enc _ => lifted os started H enc)

theorem proved : Rows.FnVisGetListSaid := over
#print axioms proved
end Go.Proofs.Ytopneihamefohaa.fnVisGetList
