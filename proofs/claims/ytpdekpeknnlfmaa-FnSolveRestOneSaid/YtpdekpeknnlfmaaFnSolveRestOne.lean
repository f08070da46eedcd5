/- One phase changes few baselines. For every input; each argument reads afterwards as it read before. -/
import Derived.Test.YtpdekpeknnlfmaaFrame
import Derived.Test.YtpdekpeknnlfmaaDrawRest
namespace Go.Proofs.Ytpdekpeknnlfmaa.fnSolveRestOne
open Go.ChangeShapes Go.WideShapes Go.ChangeAt Go.RowKit Go.Deep
set_option linter.unusedVariables false

set_option maxHeartbeats 4000000 in
set_option maxRecDepth 100000 in
theorem walk (w : World) (a0 : Option Addr) (len0 cap0 : Nat) (h0 : Bytes w a0 len0 w.heap.size) (k0 : len0 ≤ cap0) (a1 : Option Addr) (len1 cap1 : Nat) (h1 : Bytes w a1 len1 w.heap.size) (k1 : len1 ≤ cap1) :
    Calls Try.prog 5 #[.slice a0 len0 cap0, .slice a1 len1 cap1] w fun e w' => e = .returned (.bool true) ∧ Below w.heap.size w w' := by
  by_cases gl0 : len0 ≤ 1048576
  case neg =>
    go_enter Try.func5, Try.ntmps5
    go_wp2
    go_ret
    exact ⟨rfl, Below.refl _ _⟩
  by_cases gl1 : len1 ≤ 1048576
  case neg =>
    go_enter Try.func5, Try.ntmps5
    go_wp2
    go_ret
    exact ⟨rfl, Below.refl _ _⟩
  case pos =>
    have B := Below.refl w.heap.size w
    go_enter Try.func5, Try.ntmps5
    go_wp2_with fail
    refine (DrawSolveRest_any _ _ _ _ h0 k0).mono ?_
    rintro e w1 ⟨N, A, A2, A3, c, c2, c3, as_, bs, ph, rfl, n2, n6, la, lb, lp, lpc, o, o2, o3, b1⟩
    have s1 := b1.size
    replace B := bel_trans B b1
    clear b1
    go_wp2_with fail
    refine (SolveRest_any _ _ _ _ _ _ _ _ _ _ _ o.rd o2.rd o3.rd (by omega) (by omega) (by omega) rfl rfl rfl).mono ?_
    rintro e w2 ⟨rfl, b2⟩
    have s2 := b2.size
    replace B := bel_trans B b2
    replace o := o.below b2 (by omega)
    replace o2 := o2.below b2 (by omega)
    replace o3 := o3.below b2 (by omega)
    clear b2
    go_wp2_with fail
    refine (sSolveRest_any _ _ _ _ _ _ _ _ _ _ _ o.rd o2.rd o3.rd (by omega) (by omega) (by omega) rfl rfl rfl).mono ?_
    rintro e w3 ⟨rfl, b3⟩
    have s3 := b3.size
    replace B := bel_trans B b3
    replace o := o.below b3 (by omega)
    replace o2 := o2.below b3 (by omega)
    replace o3 := o3.below b3 (by omega)
    clear b3
    have bd := rest_bd (N : Int) as_ bs ph
    by_cases hneg : solveRest (N : Int) as_ bs ph < 0
    case pos =>
      go_wp2
      go_ret
      exact ⟨rfl, B⟩
    have hrb := rest_pos hneg
    obtain ⟨N', eN, _, n7, _, _, hpl, hpa⟩ := rest_parts hrb
    obtain rfl : N = N' := by omega
    clear eN
    have HLn := Lib.hid hpl
    obtain ⟨a, ha⟩ : ∃ a : Nat, a = len1 % N := ⟨_, rfl⟩
    have han : a < N := by rw [ha]; exact Nat.mod_lt _ (by omega)
    have ek : (len1 : Int) % (N : Int) = (a : Int) := by rw [ha]; simp
    have ek2 : ((N : Int) == 0) = false := by simp; omega
    have ek3 : ¬ (N : Int) = 0 := by omega
    have ek4 : ¬ N = 0 := by omega
    have pa := allP_at hpa (j := a) (by omega)
    obtain ⟨q1, q2, q3⟩ := rest_one hrb han
    have Q2 := Lib.hid q2
    have Q3 := Lib.hid q3
    clear ha q1 q2 q3 hpa hrb hpl
    obtain ⟨i0, hi, hz0, hz1, hz2⟩ := info_parts info_int
    have blb : 0 < ph.length := by rw [HLn.out]; omega
    have bla : (a : Int) < (ph.length : Int) := by rw [HLn.out]; omega
    obtain ⟨qb, fb, eb, hqb, _⟩ := o3.rd.int_at (k := 0) blb
    subst eb
    have RO := Lib.hid (o3.rd.below ((Below.refl w3.heap.size w3).alloc (Nat.le_refl _) (.cells #[] 3)) (Nat.le_refl _))
    have m1 := Lib.hid (show 0 + ph.length ≤ maxLen by simp [maxLen]; omega)
    have m2 := Lib.hid (show (0 + ph.length) * 8 ≤ 140737488355328 by omega)
    have m3 := Lib.hid (show w3.heap.size ≤ (w3.alloc (.cells #[] 3)).heap.size by simp)
    have m4 := Lib.hid (World.ownsRow_made (e := 3) (size := 1) w3 #[] 0 (Nat.le_refl _) (by simp [maxLen]) rfl)
    have m5 := Lib.hid (show ∀ u ∈ ints ph, u.oneCell' = true from fun u hu => by simp only [ints, List.mem_map] at hu; obtain ⟨x, _, rfl⟩ := hu; rfl)
    have wr1 : IntKind.i64.wrap (gi ph a + 1) = gi ph a + 1 := IntWalk.i64_in _ (by omega)
    go_wp2_with (first | (go_at_call 24; refine (PhaseOf_any _ _).mono ?_; rintro e w' ⟨rfl, rfl⟩) | (
     at_builtin
     refine wpList_append_lies _ rfl _ _ 26 rfl w3.heap.size 3 i0 (.int .i64 0) 1 8 Try.underlying26 hi hz0 hz1 hz2 rfl (by decide) _ 0 [] rfl m4.out ⟨qb, fb, none⟩ ph.length c3 (ints ph) rfl (by simp) (RO.out.olds _ rfl) m5.out blb m1.out m2.out m3.out _ rfl ?_
     intro gq cap w4 hown1 hgrow hat hlt1
     have b4 : Below w3.heap.size w3 w4 := bel_app (Below.refl _ _) hgrow (fun q hq => by cases hq; exact Nat.le_refl _)
     have o4 : Ow w4 3 w3.heap.size w4.heap.size (some ⟨gq, 0, none⟩) (ints ph) := Ow.of_own (by simpa using hown1)
     clear hown1 hgrow hat hlt1 RO m1 m2 m3 m4 m5
     have s4 := b4.size
     replace B := bel_trans B b4
     replace o := o.below b4 (by omega)
     replace o2 := o2.below b4 (by omega)
     clear b4
     obtain ⟨gq', of', e', r1, r2, r3, cc1, ff1, hset⟩ := o4.cell_at (k := a) (by simpa using (by omega : a < ph.length))
     injection e' with e'
     injection e' with e1' e2'
     subst e1' e2'
     have o5 := hset (.int .i64 ((gi ph a + 1) % 360))
     rw [ints_set] at o5
     have on : Only w4 (w4.setCell ⟨gq, 0 + a, none⟩ (.int .i64 ((gi ph a + 1) % 360))) w3.heap.size w4.heap.size := (Only.refl _ _ _).setCell r1 r2 _
     rw [ints_get (by omega)] at cc1
     simp only [Nat.zero_add] at cc1 ff1 o5 on
     have B_ := Lib.hid (on.below B (by omega) (Nat.le_refl _))
     have o_ := Lib.hid (o.only on (.inl (by omega)))
     have o2_ := Lib.hid (o2.only on (.inl (by omega)))
     have o5_ := Lib.hid o5
     clear o5 on hset o o2 o3 o4 B))
    refine (SolveRest_any _ _ _ _ _ _ _ _ _ _ _ o_.out.rd o2_.out.rd o5_.out.rd (by omega) (by omega) (by simp; omega) rfl rfl (by simp)).mono ?_
    rintro e w5 ⟨rfl, b5⟩
    have B5 := bel_trans B_.out b5
    have d1 := Q2.out
    have d2 := Q3.out
    have wr2 : IntKind.i64.wrap (solveRest (N : Int) as_ bs (ph.set a ((gi ph a + 1) % 360)) - solveRest (N : Int) as_ bs ph) = solveRest (N : Int) as_ bs (ph.set a ((gi ph a + 1) % 360)) - solveRest (N : Int) as_ bs ph := IntWalk.i64_in _ (by omega)
    have d3 : decide (-1 ≤ solveRest (N : Int) as_ bs (ph.set a ((gi ph a + 1) % 360)) - solveRest (N : Int) as_ bs ph) = true := by simp; omega
    have d4 : decide (solveRest (N : Int) as_ bs (ph.set a ((gi ph a + 1) % 360)) - solveRest (N : Int) as_ bs ph ≤ 1) = true := by simp; omega
    generalize solveRest (N : Int) as_ bs (ph.set a ((gi ph a + 1) % 360)) = u1 at *
    generalize solveRest (N : Int) as_ bs ph = u2 at *
    clear b5 cc1 ff1
    go_wp2
    go_ret
    exact ⟨rfl, B5⟩

set_option maxRecDepth 100000 in
theorem lifted (os : Os) (started : os.Started) (H : Type) (enc : TypeId × Value → H) :
    ReturnsInHanded {} Try.checked os 5 .any (Rows.fnSolveRestOneSpec.pre6 enc Try.prog Try.f5 Rows.fnSolveRestOneRow.domain false) (Rows.fnSolveRestOneSpec.post enc Try.prog Try.f5 false true false false) := by
  refine returnsInHanded_of_change (C := Try.checked) own started (by kernel_rfl) Try.func5
    (ChangeSpec.witness6 (enc := enc) (C := Try.checked) false ⟨#[], #[.slice none 0 0, .slice none 0 0], []⟩ 8 (by kernel_rfl) (by kernel_rfl) (by kernel_rfl) (by kernel_rfl)) ?_
  intro W base args ds gs before hval0 hW hcnd _
  have hval : ∀ (j : Nat) t v, Try.f5.params[j]? = some t → args[j]? = some v → Value.okWide Try.prog W .any base t v := hval0
  have hW' := hW
  obtain ⟨p, q, hA0, hV, rfl, hfz, hnd⟩ := hW
  have hA : DataW.TrodAll enc Try.prog W 0 (fun _ => true) true Try.f5.params.toList args.toList ds p := hA0
  rw [Try.params5] at hA hval
  obtain ⟨v0, vs0, d0, ds0, p0, q0, hargs, rfl, rfl, h0, r0⟩ := trodAll_cons hA
  obtain ⟨v1, vs1, d1, ds1, p1, q1, rfl, rfl, rfl, h1, r1⟩ := trodAll_cons r0
  obtain ⟨rfl, rfl, rfl⟩ := trodAll_nil r1
  obtain rfl : args = #[v0, v1] := by cases args; simp_all
  obtain ⟨rfl, rfl⟩ := trodVars_none hV
  obtain ⟨a0, len0, cap0, rfl⟩ := okWide_slice Try.underlying22 (hval 0 22 v0 rfl rfl)
  have k0 := h0
  have lt0 : ∀ x ∈ p0, x.block < W.heap.size := by obtain ⟨m, hm⟩ := k0; exact DataW.trod_lt m _ _ _ hm
  obtain ⟨z0, n0, u0, f0, c0⟩ := in_ints Try.underlying22 Try.underlying5 (by kernel_rfl) h0
  have w0 := Rd.bytes u0 n0 f0
  obtain ⟨a1, len1, cap1, rfl⟩ := okWide_slice Try.underlying22 (hval 1 22 v1 rfl rfl)
  have k1 := h1
  have lt1 : ∀ x ∈ p1, x.block < W.heap.size := by obtain ⟨m, hm⟩ := k1; exact DataW.trod_lt m _ _ _ hm
  obtain ⟨z1, n1, u1, f1, c1⟩ := in_ints Try.underlying22 Try.underlying5 (by kernel_rfl) h1
  have w1 := Rd.bytes u1 n1 f1
  clear hA0 hval0
  refine (walk W a0 len0 cap0 w0 c0 a1 len1 cap1 w1 c1).mono fun e W' ⟨he, bel⟩ => ?_
  subst he
  exact ⟨_, rfl, _, _, _, [], _, [], hW', trodAll_mk1 (shut_bool Try.underlying4 _), (trodAll_cons_mk (Below.trod laidOut (by kernel_rfl) (of_decide_eq_true (by kernel_rfl)) k0 bel lt0) (trodAll_cons_mk (Below.trod laidOut (by kernel_rfl) (of_decide_eq_true (by kernel_rfl)) k1 bel lt1) trodAll_mk0)), rfl, bel.frame _, fun h => by cases h⟩

theorem over : Rows.fnSolveRestOneRow.holds Try.pinned (OpenSpec.ofChange Rows.fnSolveRestOneSpec) :=
  OpenClaim.holds_of_wide 5 Try.f5 rfl rfl rfl rfl rfl rfl rfl ⟨rfl, rfl, rfl, rfl, rfl⟩ rfl rfl rfl rfl rfl (by kernel_rfl) Try.func5 (by kernel_rfl)
    (of_decide_eq_true (by kernel_rfl)) (by unfold Func.isWrapper; first | (rw [if_pos (by decide +kernel)]; kernel_rfl) | (rw [if_neg (by decide +kernel)]; exact ⟨rfl, rfl⟩))
    (fun os started H enc _ => lifted os started H enc)

theorem proved : Rows.FnSolveRestOneSaid := over
#print axioms proved
end Go.Proofs.Ytpdekpeknnlfmaa.fnSolveRestOne
