/-
  Contract of the reference's GainRemove.
-/
import Derived.Test.YtpdekpeknnlfmaaApplyS
namespace Go.Proofs.Ytpdekpeknnlfmaa
set_option linter.unusedVariables false
open Go.RowKit
attribute [local go_sem ↓] Go.wp_at_zero Go.wp_at_succ

/-- the amplitudes of the first k baselines can be divided -/
def DvTo (ls gs : List (Int × Int)) (N k : Nat) : Prop := ∀ p, p < k → g1 ls p % (g1 gs (b1 N p) * g1 gs (b2 N p)) = 0
theorem DvTo.zero (ls gs : List (Int × Int)) (N : Nat) : DvTo ls gs N 0 := fun p hp => absurd hp (by omega)
theorem DvTo.step {ls gs : List (Int × Int)} {N k : Nat} (h : DvTo ls gs N k) (e : g1 ls k % (g1 gs (b1 N k) * g1 gs (b2 N k)) = 0) : DvTo ls gs N (k + 1) := fun p hp => by
  by_cases hk : p = k
  · rw [hk]; exact e
  · exact h p (by omega)
theorem DvTo.all {ls gs : List (Int × Int)} {N : Nat} (h : DvTo ls gs N (nb N)) : rmB N ls gs = true := by
  unfold rmB
  rw [List.all_eq_true]
  intro p hp
  simpa using h p (by simpa using hp)
theorem rmB_not {ls gs : List (Int × Int)} {N p : Nat} (hp : p < nb N) (h : g1 ls p % (g1 gs (b1 N p) * g1 gs (b2 N p)) ≠ 0) : rmB N ls gs = false := by
  rw [Bool.eq_false_iff]
  intro e
  unfold rmB at e
  rw [List.all_eq_true] at e
  exact h (by simpa using e p (by simpa using hp))
theorem one_le_mul {x y : Int} (hx : 1 ≤ x) (hy : 1 ≤ y) : 1 ≤ x * y := by
  have := Int.mul_le_mul hx hy (by omega) (by omega)
  omega
set_option maxRecDepth 100000 in
set_option maxHeartbeats 4000000 in
theorem sGainRemove_yes (N : Nat) (A B : Option Addr) (c d : Nat) (ls gs : List (Int × Int)) (w : World) (hls : Rd w A (pairs ls)) (hgs : Rd w B (pairs gs)) (vl : visB (N : Int) ls = true) (vg : gainB (N : Int) gs = true) {m m' : Nat} (hm : ls.length = m) (hm' : gs.length = m') :
    Calls Try.prog 42 #[.int .i64 (N : Int), .slice A m c, .slice B m' d] w (RetG w 32 (gainRemove (N : Int) ls gs)) := by
  have hmn := inB_true (visB_ok vl).1
  have n2 : 2 ≤ N := by omega
  have n7 : N ≤ 7 := by omega
  have hnb := nb_le n7
  have LL := Lib.hid (visB_len vl)
  have LG := Lib.hid (gainB_len vg)
  have hll : ls.length ≤ 1048592 := by have := LL.out; omega
  have hlg : gs.length ≤ 1048592 := by have := LG.out; omega
  subst hm hm'
  obtain ⟨i0, hi, hz0, hz1, hz2⟩ := info_parts info_Vis
  clear hmn
  have bw : Below w.heap.size w (w.alloc (.cells #[] 32)) := (Below.refl w.heap.size w).alloc (Nat.le_refl _) _
  have hl' := hls.below bw (Nat.le_refl _)
  have hg' := hgs.below bw (Nat.le_refl _)
  go_enter Try.func42, Try.ntmps42
  go_wp2_with fail
  refine (sVisValid_any _ _ _ _ _ hl' hll rfl).mono ?_; rintro e w' ⟨rfl, rfl⟩
  rw [vl]
  go_wp2_with fail
  refine (sGainsValid_any _ _ _ _ _ hg' hlg rfl).mono ?_; rintro e w' ⟨rfl, rfl⟩
  rw [vg]
  clear bw hl' hg'
  go_wp2
  go_loopw [8, 9] (fun o i wr => ∃ k : Nat, k ≤ N ∧ i = .int .i64 k ∧ DvTo ls gs N (idx N k (k + 1)) ∧ ApG w wr 32 o (fun p => rmE ls gs N p p) (idx N k (k + 1))) (fun _ i _ => N - (intOf i).toNat)
  case atStart => exact ⟨0, Nat.zero_le _, rfl, by rw [idx_zero n7]; exact ⟨DvTo.zero _ _ _, World.ownsRow_made w #[] 0 (Nat.le_refl _) (by simp [maxLen]) rfl, (Below.refl _ _).alloc (Nat.le_refl _) _⟩⟩
  case round =>
    obtain ⟨k, hk, rfl, hrel⟩ := hrel
    obtain ⟨wa, rfl⟩ : ∃ wa : World, wa = wr := ⟨_, rfl⟩
    by_cases hlt : k < N
    · have HR := Lib.hid hrel
      clear hrel
      go_wp2
      go_loopw [8, 10] (fun o i wr => ∃ l : Nat, k < l ∧ l ≤ N ∧ i = .int .i64 l ∧ DvTo ls gs N (idx N k l) ∧ ApG w wr 32 o (fun p => rmE ls gs N p p) (idx N k l)) (fun _ i _ => N - (intOf i).toNat)
      case atStart => exact ⟨k + 1, by omega, by omega, by go_num, HR.out⟩
      case round =>
        clear HR
        obtain ⟨l, hkl, hl, rfl, hrel⟩ := hrel
        obtain ⟨wm, rfl⟩ : ∃ wm : World, wm = wr := ⟨_, rfl⟩
        by_cases hlt2 : l < N
        · obtain ⟨q1, q2, q3⟩ := idx_at n7 hkl hlt2
          have HX := Lib.hid (show rmE ls gs N (idx N k l) (idx N k l) = (g1 ls (idx N k l) / (g1 gs k * g1 gs l), (g2 ls (idx N k l) + g2 gs k - g2 gs l) % 360) by simp only [rmE, q2, q3])
          have HQ := Lib.hid (show g1 ls (idx N k l) % (g1 gs (b1 N (idx N k l)) * g1 gs (b2 N (idx N k l))) = g1 ls (idx N k l) % (g1 gs k * g1 gs l) by rw [q2, q3])
          have HN := Lib.hid (idx_next n7 hkl hlt2)
          have e1 := gk_lt (N := N) hkl
          have e2 := vph_lt (ps := ls) (N := N) hkl
          have HG := Lib.hid (fun w' h => l11Get_any N k l A c ls w' h vl n2 n7 hlt hlt2 (by omega) rfl)
          rw [e2, e1] at HG
          clear e1 e2 q2 q3
          generalize idx N k l = p at *
          have HR := Lib.hid hrel
          have hbm := hrel.2.2.size
          clear hrel
          go_wp2_with fail
          refine (HG.out _ (hls.below HR.out.2.2 (Nat.le_refl _))).mono ?_
          rintro e w1 ⟨rfl, b1⟩
          have X2 := XW.new HR.out.2 b1 (g1 ls p) (g2 ls p)
          have HD := Lib.hid HR.out.1
          clear b1 HR HG
          obtain ⟨z1, z2, z3, z4⟩ := allV_bd (visB_ok vl).2.2 (j := p) (by rw [LL.out]; exact q1)
          obtain ⟨z5, z6, z7, z8⟩ := allV_bd (gainB_ok vg).2.2 (j := k) (by rw [LG.out]; exact hlt)
          obtain ⟨z9, z10, z11, z12⟩ := allV_bd (gainB_ok vg).2.2 (j := l) (by rw [LG.out]; exact hlt2)
          obtain ⟨p1, p2⟩ := mul_bd (x := g1 gs k) (y := g1 gs l) (B := 99) (C := 99) (by omega) (by omega)
          have p3 := one_le_mul z5 z9
          have i2 : (k : Int) < (gs.length : Int) := by rw [LG.out]; omega
          have i3 : (l : Int) < (gs.length : Int) := by rw [LG.out]; omega
          have k2 : k < gs.length := by rw [LG.out]; exact hlt
          have k3 : l < gs.length := by rw [LG.out]; exact hlt2
          go_wp2
          generalize hW2 : w1.alloc (.cells #[.int .i64 (g1 ls p), .int .i64 (g2 ls p)] 32) = W2 at *
          generalize hb : w1.heap.size = b at *
          clear hW2 hb
          obtain ⟨qa, oa, rfl, hqa, a1, a2⟩ := (hgs.below X2.2.2.2.2 (Nat.le_refl _)).pair_at k2
          obtain ⟨qb, ob, e, _, d1, d2⟩ := (hgs.below X2.2.2.2.2 (Nat.le_refl _)).pair_at k3
          injection e with e
          injection e with e1 e2
          subst e1 e2
          obtain ⟨c0, c1, f0, f1, hlb⟩ := two_cells X2.1
          have e1 : IntKind.i64.wrap (g1 gs k * g1 gs l) = g1 gs k * g1 gs l := IntWalk.i64_in _ (by omega)
          have X3 := Lib.hid X2.drew
          clear X2
          go_still_tail 11, (by kernel_rfl)
          clear e1
          by_cases hdv : g1 ls p % (g1 gs k * g1 gs l) = 0
          · have HV := Lib.hid hdv
            go_wp2
            have F3 := Lib.hid ((X3.out.set0 (g1 ls p / (g1 gs k * g1 gs l))))
            clear X3
            generalize hW3 : (W2.setCell ⟨b, 0, none⟩ (.int .i64 (g1 ls p / (g1 gs k * g1 gs l)))).drew = W3 at *
            have F3 : XW w wm W3 32 u8 (fun p => rmE ls gs N p p) p b (g1 ls p / (g1 gs k * g1 gs l)) (g2 ls p) := by rw [← hW3]; exact F3.out
            clear hW3 a1 a2 d1 d2 c0 c1 f0 f1 hlb hdv
            rename XW w wm W3 _ _ _ _ _ _ _ => X3
            obtain ⟨qb, ob, e, _, a1, a2⟩ := (hgs.below X3.2.2.2.2 (Nat.le_refl _)).pair_at k2
            injection e with e
            injection e with e1 e2
            subst e1 e2
            obtain ⟨qb, ob, e, _, d1, d2⟩ := (hgs.below X3.2.2.2.2 (Nat.le_refl _)).pair_at k3
            injection e with e
            injection e with e1 e2
            subst e1 e2
            obtain ⟨c0, c1, f0, f1, hlb⟩ := two_cells X3.1
            have HX2 := Lib.hid (show (g2 ls p - g2 gs l + g2 gs k) % 360 = (g2 ls p + g2 gs k - g2 gs l) % 360 by congr 1; omega)
            have H1 := Lib.hid ((X3.set1 ((g2 ls p - g2 gs l + g2 gs k) % 360)).ap)
            have m1 := Lib.hid (show p + 1 ≤ maxLen by simp [maxLen]; omega)
            have m2 := Lib.hid (show (p + 1) * 16 ≤ 140737488355328 by omega)
            have m3 := Lib.hid (base_da (o := .cells #[.int .i64 (g1 ls p / (g1 gs k * g1 gs l)), .int .i64 ((g2 ls p - g2 gs l + g2 gs k) % 360)] 32) H1.out.2.size)
            clear X3
            have HP := Lib.hid (still_sphase (g2 ls p - g2 gs l + g2 gs k))
            have e3 : IntKind.i64.wrap (g2 ls p - g2 gs l) = g2 ls p - g2 gs l := IntWalk.i64_in _ (by omega)
            have e4 : IntKind.i64.wrap (g2 ls p - g2 gs l + g2 gs k) = g2 ls p - g2 gs l + g2 gs k := IntWalk.i64_in _ (by clear e3; omega)
            refine wp_region_still_tail 16 (by kernel_rfl) (by kernel_rfl) ?_
            simp only [List.take_succ_cons, List.take_zero, List.drop_succ_cons, List.drop_zero]
            repeat still_step
            still_call (HP.out _)
            repeat still_step
            refine wpStill_nil ?_
            clear e3 e4 HP
            go_wp2_with (at_builtin; refine wpList_append_lies _ rfl _ _ 23 rfl w.heap.size 32 i0 (.agg #[.int .i64 0, .int .i64 0]) 2 16 Try.underlying23 hi hz0 hz1 hz2 rfl (by decide) _ p (pairs (upto (fun p => rmE ls gs N p p) p)) rfl (own_da H1.out.1 _) ⟨W3.heap.size, 0, none⟩ 1 1 [.int .i64 (g1 ls p / (g1 gs k * g1 gs l)), .int .i64 ((g2 ls p - g2 gs l + g2 gs k) % 360)] rfl rfl (news_daS _ _ _ _ _ _) (one2 _ _) (by decide) m1.out m2.out m3.out _ rfl ?_; intro g cap w1 hown1 hgrow hat hlt1)
            go_roundw
            case rel =>
              refine ⟨l + 1, by omega, by omega, by go_num, ?_⟩
              rw [HN.out]
              exact ⟨HD.out.step (HQ.out.trans HV.out), ApG.stepD (f := fun p => rmE ls gs N p p) H1.out (by simp only [HX.out, ← HX2.out]; exact hown1) hgrow⟩
            case measure => simp [intOf]; omega
          · have HF := Lib.hid (show gainRemove (N : Int) ls gs = ([], false) by simp [gainRemove, rmB_not q1 (by rw [HQ.out]; exact hdv)])
            go_wp2
            go_ret2
            rw [HF.out]
            exact RetG.none_ _ _ (X3.out.2.2.2.2.alloc X3.out.2.2.2.2.size _)
        · obtain rfl : l = N := by omega
          have HR := Lib.hid hrel
          have HN := Lib.hid (idx_row n7 hlt)
          clear hrel
          go_wp2
          go_roundw
          case rel => exact ⟨k + 1, by omega, by go_num, by rw [← HN.out]; exact HR.out⟩
          case measure => simp [intOf]; omega
    · obtain rfl : k = N := by omega
      rw [idx_end n2 n7] at hrel
      obtain ⟨Ao, co, rfl, hco, _⟩ := own_shape hrel.2.1
      have ho := Ow.of_own hrel.2.1
      have hbw := hrel.2.2
      have vr := hrel.1.all
      clear hrel
      have HF := Lib.hid (show gainRemove (k : Int) ls gs = (upto (fun p => rmE ls gs k p p) (nb k), true) by simp [gainRemove, vr, vl, vg])
      clear vr
      go_wp2
      go_ret2
      rw [HF.out]
      exact ⟨Ao, co, by simp, by simpa using hco, ho, hbw⟩

set_option maxHeartbeats 2000000 in
theorem sGainRemove_any (n : Int) (A B : Option Addr) (c d : Nat) (ls gs : List (Int × Int)) (w : World) (hls : Rd w A (pairs ls)) (hgs : Rd w B (pairs gs)) (hl : ls.length ≤ 1048592) (hl' : gs.length ≤ 1048592) {m m' : Nat} (hm : ls.length = m) (hm' : gs.length = m') :
    Calls Try.prog 42 #[.int .i64 n, .slice A m c, .slice B m' d] w (RetG w 32 (gainRemove n ls gs)) := by
  subst hm hm'
  have bw : Below w.heap.size w (w.alloc (.cells #[] 32)) := (Below.refl w.heap.size w).alloc (Nat.le_refl _) _
  have ha' := hls.below bw (Nat.le_refl _)
  have hb' := hgs.below bw (Nat.le_refl _)
  cases va : visB n ls with
  | false =>
    rw [show gainRemove n ls gs = ([], false) by simp [gainRemove, va]]
    go_enter Try.func42, Try.ntmps42
    go_wp2_with fail
    refine (sVisValid_any _ _ _ _ _ ha' hl rfl).mono ?_; rintro e w' ⟨rfl, rfl⟩
    rw [va]
    go_wp2
    go_ret2
    exact RetG.none_ _ _ bw
  | true =>
  cases vb : gainB n gs with
  | false =>
    rw [show gainRemove n ls gs = ([], false) by simp [gainRemove, vb]]
    go_enter Try.func42, Try.ntmps42
    go_wp2_with fail
    refine (sVisValid_any _ _ _ _ _ ha' hl rfl).mono ?_; rintro e w' ⟨rfl, rfl⟩
    rw [va]
    go_wp2_with fail
    refine (sGainsValid_any _ _ _ _ _ hb' hl' rfl).mono ?_; rintro e w' ⟨rfl, rfl⟩
    rw [vb]
    go_wp2
    go_ret2
    exact RetG.none_ _ _ bw
  | true =>
  obtain ⟨N, rfl, h2, h7⟩ := many_nat (visB_ok va).1
  exact sGainRemove_yes N A B c d ls gs w hls hgs va vb rfl rfl

end Go.Proofs.Ytpdekpeknnlfmaa
