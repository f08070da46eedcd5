/- Folding associates. For every input; each argument reads afterwards as it read before. -/
import Derived.Test.YthlhojbbecioaaaFrame
import Derived.Test.YthlhojbbecioaaaSkyC
import Derived.Test.YthlhojbbecioaaaDrawSky
import Derived.Test.YthlhojbbecioaaaSkyL
import Derived.Test.YthlhojbbecioaaaSkyR
namespace Go.Proofs.Ythlhojbbecioaaa.fnFoldThree
open Go.ChangeShapes Go.WideShapes Go.ChangeAt Go.RowKit Go.Deep
set_option linter.unusedVariables false

set_option maxHeartbeats 4000000 in
set_option maxRecDepth 100000 in
theorem walk (w : World) (a0 : Option Addr) (len0 cap0 : Nat) (h0 : Bytes w a0 len0 w.heap.size) (k0 : len0 ≤ cap0) (a1 : Option Addr) (len1 cap1 : Nat) (h1 : Bytes w a1 len1 w.heap.size) (k1 : len1 ≤ cap1) :
    Calls Try.prog 6 #[.slice a0 len0 cap0, .slice a1 len1 cap1] w fun e w' => e = .returned (.bool true) ∧ Below w.heap.size w w' := by
  by_cases g0 : len0 ≤ 1048576
  case neg =>
    go_enter Try.func6, Try.ntmps6
    go_wp2
    go_ret
    exact ⟨rfl, Below.refl _ _⟩
  by_cases g1 : len1 ≤ 1048576
  case neg =>
    go_enter Try.func6, Try.ntmps6
    go_wp2
    go_ret
    exact ⟨rfl, Below.refl _ _⟩
  case pos =>
    have B := Below.refl w.heap.size w
    go_enter Try.func6, Try.ntmps6
    go_wp2_with fail
    refine (DrawSkyFold_any _ _ _ _ h0 k0).mono ?_
    rintro e w1 ⟨A, A2, c, c2, zs, ys, rfl, hl, hl2, o, o2, b1⟩
    have s1 := b1.size
    replace B := bel_trans B b1
    clear b1
    go_wp2_with fail
    refine (SkyFold_any _ _ _ _ _ _ _ o.rd o2.rd (by omega) (by omega) rfl rfl).mono ?_
    rintro e w2 ⟨Ag, cg, rfl, clg, g, b2⟩
    have s2 := b2.size
    replace B := bel_trans B b2
    replace o := o.below b2 (by omega)
    replace o2 := o2.below b2 (by omega)
    clear b2
    go_wp2_with fail
    refine (sSkyFold_any _ _ _ _ _ _ _ o.rd o2.rd (by omega) (by omega) rfl rfl).mono ?_
    rintro e w3 ⟨Av, cv, rfl, clv, v, b3⟩
    have s3 := b3.size
    replace B := bel_trans B b3
    replace o := o.below b3 (by omega)
    replace o2 := o2.below b3 (by omega)
    replace g := g.below b3 (by omega)
    clear b3
    have rl : (skyFold zs ys).1.length ≤ 1048592 := skyFold_len _ _
    cases hok : (skyFold zs ys).2 with
    | false =>
      go_wp2_with fail
      refine (sameInts_any _ _ _ _ _ _ _ g.rd v.rd rl rl rfl rfl).mono ?_
      rintro e w4 ⟨rfl, b4⟩
      have s4 := b4.size
      replace B := bel_trans B b4
      replace o := o.below b4 (by omega)
      replace o2 := o2.below b4 (by omega)
      replace g := g.below b4 (by omega)
      replace v := v.below b4 (by omega)
      clear b4
      go_wp2_with fail
      refine (sameInts_any _ _ _ _ _ _ _ g.rd v.rd rl rl rfl rfl).mono ?_
      rintro e w5 ⟨rfl, b5⟩
      have s5 := b5.size
      replace B := bel_trans B b5
      replace o := o.below b5 (by omega)
      replace o2 := o2.below b5 (by omega)
      replace g := g.below b5 (by omega)
      replace v := v.below b5 (by omega)
      clear b5
      go_wp2
      go_ret
      exact ⟨rfl, B⟩
    | true =>
    go_wp2_with fail
    refine (sameInts_any _ _ _ _ _ _ _ g.rd v.rd rl rl rfl rfl).mono ?_
    rintro e w4 ⟨rfl, b4⟩
    have s4 := b4.size
    replace B := bel_trans B b4
    replace o := o.below b4 (by omega)
    replace o2 := o2.below b4 (by omega)
    replace g := g.below b4 (by omega)
    replace v := v.below b4 (by omega)
    clear b4
    clear v
    obtain ⟨m, hm⟩ : ∃ m : Nat, m = len1 % 16 := ⟨_, rfl⟩
    have m16 : m < 16 := by omega
    have em : (len1 : Int) % 16 = (m : Int) := by omega
    clear hm
    go_wp2_with fail
    refine (spot_any 1 2 _ (by omega) (by omega)).mono ?_
    rintro e w5 ⟨Ao3, rfl, o3, b5⟩
    have s5 := b5.size
    replace B := bel_trans B b5
    replace o := o.below b5 (by omega)
    replace o2 := o2.below b5 (by omega)
    replace g := g.below b5 (by omega)
    clear b5
    obtain ⟨gq, of, rfl, q1, q2, q3, hc, hf, hs⟩ := o3.cell_at (k := m) (by simpa using m16)
    rw [ints_get (by simpa using m16)] at hc
    have o4 := hs (.int .i64 (-1))
    rw [ints_set] at o4
    have on : Only w5 (w5.setCell ⟨gq, of + m, none⟩ (.int .i64 (-1))) w4.heap.size w5.heap.size := (Only.refl _ _ _).setCell q1 q2 _
    have B2 := on.below B (by omega) (Nat.le_refl _)
    have o_ := Lib.hid (o.only on (.inl (by omega)))
    have o2_ := Lib.hid (o2.only on (.inl (by omega)))
    have g_ := Lib.hid (g.only on (.inl (by omega)))
    have o4_ := Lib.hid o4
    have B_ := Lib.hid B2
    clear o4 on B2 hs o o2 g o3 B
    go_wp2_with fail
    have o := o_.out
    have o2 := o2_.out
    have g := g_.out
    have o3 := o4_.out
    have B := B_.out
    clear o_ o2_ g_ o4_ B_ hc hf
    have hsz : (w5.setCell ⟨gq, of + m, none⟩ (.int .i64 (-1))).heap.size = w5.heap.size := by simp [World.setCell]
    generalize hW : w5.setCell ⟨gq, of + m, none⟩ (.int .i64 (-1)) = W at *
    have hsz1 := Nat.le_of_eq hsz
    have hsz2 := Nat.le_of_eq hsz.symm
    clear hW hsz
    generalize hC : (spotL (Int.toNat 1) 2).set m (-1) = C at *
    have hC16 : C.length = 16 := by rw [← hC]; simp
    have hCl : C.length ≤ 1048592 := by omega
    have HC := Lib.hid hC16
    clear hC hC16
    refine (SkyFold_any _ _ _ _ _ _ _ g.rd o3.rd rl hCl rfl HC.out).mono ?_
    rintro e w6 ⟨Ax1', cx1', rfl, clx1', x1', b6⟩
    have s6 := b6.size
    replace B := bel_trans B b6
    replace o := o.below b6 (by omega)
    replace o2 := o2.below b6 (by omega)
    replace g := g.below b6 (by omega)
    replace o3 := o3.below b6 (by omega)
    clear b6
    go_wp2_with fail
    refine (SkyFold_any _ _ _ _ _ _ _ o2.rd o3.rd (by omega) hCl rfl HC.out).mono ?_
    rintro e w7 ⟨Ay1', cy1', rfl, cly1', y1', b7⟩
    have s7 := b7.size
    replace B := bel_trans B b7
    replace o := o.below b7 (by omega)
    replace o2 := o2.below b7 (by omega)
    replace g := g.below b7 (by omega)
    replace o3 := o3.below b7 (by omega)
    replace x1' := x1'.below b7 (by omega)
    clear b7
    go_wp2_with fail
    refine (SkyFold_any _ _ _ _ _ _ _ o.rd y1'.rd (by omega) (skyFold_len _ _) rfl rfl).mono ?_
    rintro e w8 ⟨Az1', cz1', rfl, clz1', z1', b8⟩
    have s8 := b8.size
    replace B := bel_trans B b8
    replace o := o.below b8 (by omega)
    replace o2 := o2.below b8 (by omega)
    replace g := g.below b8 (by omega)
    replace o3 := o3.below b8 (by omega)
    replace x1' := x1'.below b8 (by omega)
    replace y1' := y1'.below b8 (by omega)
    clear b8
    cases hp : (skyFold (skyFold zs ys).1 C).2 with
    | false =>
      go_wp2
      go_ret
      exact ⟨rfl, B⟩
    | true =>
    cases hq : (skyFold ys C).2 with
    | false =>
      go_wp2
      go_ret
      exact ⟨rfl, B⟩
    | true =>
    cases hr : (skyFold zs (skyFold ys C).1).2 with
    | false =>
      go_wp2
      go_ret
      exact ⟨rfl, B⟩
    | true =>
    have Q2 := Lib.hid (fold_three hok hp hq hr)
    go_wp2_with fail
    refine (sameInts_any _ _ _ _ _ _ _ x1'.rd z1'.rd (skyFold_len _ _) (skyFold_len _ _) rfl rfl).mono ?_
    rintro e w9 ⟨rfl, b9⟩
    have s9 := b9.size
    replace B := bel_trans B b9
    replace o := o.below b9 (by omega)
    replace o2 := o2.below b9 (by omega)
    replace g := g.below b9 (by omega)
    replace o3 := o3.below b9 (by omega)
    replace x1' := x1'.below b9 (by omega)
    replace y1' := y1'.below b9 (by omega)
    replace z1' := z1'.below b9 (by omega)
    clear b9
    rw [decide_eq_true Q2.out]
    go_wp2
    go_ret
    exact ⟨rfl, B⟩

set_option maxRecDepth 100000 in
theorem lifted (os : Os) (started : os.Started) (H : Type) (enc : TypeId × Value → H) :
    ReturnsInHanded {} Try.checked os 6 .any (Rows.fnFoldThreeSpec.pre6 enc Try.prog Try.f6 Rows.fnFoldThreeRow.domain false) (Rows.fnFoldThreeSpec.post enc Try.prog Try.f6 false true false false) := by
  refine returnsInHanded_of_change (C := Try.checked) own started (by kernel_rfl) Try.func6
    (ChangeSpec.witness6 (enc := enc) (C := Try.checked) false ⟨#[], #[.slice none 0 0, .slice none 0 0], []⟩ 8 (by kernel_rfl) (by kernel_rfl) (by kernel_rfl) (by kernel_rfl)) ?_
  intro W base args ds gs before hval0 hW hcnd _
  have hval : ∀ (j : Nat) t v, Try.f6.params[j]? = some t → args[j]? = some v → Value.okWide Try.prog W .any base t v := hval0
  have hW' := hW
  obtain ⟨p, q, hA0, hV, rfl, hfz, hnd⟩ := hW
  have hA : DataW.TrodAll enc Try.prog W 0 (fun _ => true) true Try.f6.params.toList args.toList ds p := hA0
  rw [Try.params6] at hA hval
  obtain ⟨v0, vs0, d0, ds0, p0, q0, hargs, rfl, rfl, h0, r0⟩ := trodAll_cons hA
  obtain ⟨v1, vs1, d1, ds1, p1, q1, rfl, rfl, rfl, h1, r1⟩ := trodAll_cons r0
  obtain ⟨rfl, rfl, rfl⟩ := trodAll_nil r1
  obtain rfl : args = #[v0, v1] := by cases args; simp_all
  obtain ⟨rfl, rfl⟩ := trodVars_none hV
  obtain ⟨a0, len0, cap0, rfl⟩ := okWide_slice Try.underlying22 (hval 0 22 v0 rfl rfl)
  have k0 := h0
  have lt0 : ∀ x ∈ p0, x.block < W.heap.size := by obtain ⟨m, hm⟩ := k0; exact DataW.trod_lt m _ _ _ hm
  obtain ⟨z0, n0, u0, f0, c0⟩ := in_ints Try.underlying22 Try.underlying5 (by kernel_rfl) h0
  have w0 := Rd.bytes u0 n0 f0
  obtain ⟨a1, len1, cap1, rfl⟩ := okWide_slice Try.underlying22 (hval 1 22 v1 rfl rfl)
  have k1 := h1
  have lt1 : ∀ x ∈ p1, x.block < W.heap.size := by obtain ⟨m, hm⟩ := k1; exact DataW.trod_lt m _ _ _ hm
  obtain ⟨z1, n1, u1, f1, c1⟩ := in_ints Try.underlying22 Try.underlying5 (by kernel_rfl) h1
  have w1 := Rd.bytes u1 n1 f1
  clear hA0 hval0
  refine (walk W a0 len0 cap0 w0 c0 a1 len1 cap1 w1 c1).mono fun e W' ⟨he, bel⟩ => ?_
  subst he
  exact ⟨_, rfl, _, _, _, [], _, [], hW', trodAll_mk1 (shut_bool Try.underlying4 _), (trodAll_cons_mk (Below.trod laidOut (by kernel_rfl) (of_decide_eq_true (by kernel_rfl)) k0 bel lt0) (trodAll_cons_mk (Below.trod laidOut (by kernel_rfl) (of_decide_eq_true (by kernel_rfl)) k1 bel lt1) trodAll_mk0)), rfl, bel.frame _, fun h => by cases h⟩

theorem over : Rows.fnFoldThreeRow.holds Try.pinned (OpenSpec.ofChange Rows.fnFoldThreeSpec) :=
  OpenClaim.holds_of_wide 6 Try.f6 rfl rfl rfl rfl rfl rfl rfl ⟨rfl, rfl, rfl, rfl, rfl⟩ rfl rfl rfl rfl rfl (by kernel_rfl) Try.func6 (by kernel_rfl)
    (of_decide_eq_true (by kernel_rfl)) (by unfold Func.isWrapper; first | (rw [if_pos (by decide +kernel)]; kernel_rfl) | (rw [if_neg (by decide +kernel)]; exact ⟨rfl, rfl⟩))
    (fun os started H enc _ => lifted os started H enc)

theorem proved : Rows.FnFoldThreeSaid := over
#print axioms proved
end Go.Proofs.Ythlhojbbecioaaa.fnFoldThree
