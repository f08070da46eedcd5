/-
  Contracts of the reference's FlagLinked.
-/
import Derived.Test.YtopneihamefohaaFlagQ
import Derived.Test.YtopneihamefohaaBools
import Derived.Test.YtopneihamefohaaGet
namespace Go.Proofs.Ytopneihamefohaa
set_option linter.unusedVariables false
open Go.RowKit

/-- numbers in new memory -/
def RetI (w : World) (r : List Int) (e : Ending) (w' : World) : Prop :=
  ∃ A c, e = .returned (.slice A r.length c) ∧ r.length ≤ c ∧ Ow w' 3 w.heap.size w'.heap.size A (ints r) ∧ Below w.heap.size w w'
theorem natL_snoc (k : Nat) : natL (k + 1) (fun v => v) = natL k (fun v => v) ++ [(k : Int)] := by simp [natL, List.range_succ]
theorem natL_low {N i j : Nat} {M : Nat → Nat} {z : Int} (hi : i < j) (hj : j < N) (hz : z = ((min (M i) (M j) : Nat) : Int)) : ((natL N M).set i z).set j z = natL N (low M i j) := by
  rw [natL_set (L' := fun v => if v = i then min (M i) (M j) else M v) (by omega) (by simp [hz]) (fun v hv hne => by simp [hne])]
  exact natL_set hj (by simp [low, hz]) (fun v hv hne => by unfold low; by_cases e : v = i <;> simp [e, hne])

theorem l16Ok_any (n : Int) (A : Option Addr) (c : Nat) (fl : List Bool) (w : World) {m : Nat} (hm : fl.length = m) (hl : fl.length ≤ 1048592) :
    Calls Try.prog 50 #[.int .i64 n, .slice A m c] w fun e w' => e = .returned (.bool (flB n fl)) ∧ w = w' := by
  subst hm
  cases h1 : manyB n with
  | false =>
    have e0 := bm_no h1
    have HF := Lib.hid (show flB n fl = false by simp [flB, h1])
    go_enter Try.func50, Try.ntmps50
    go_wp2_with (go_at_call 67; refine (sBaseMany_any _ _).mono ?_; rintro e w' ⟨rfl, rfl⟩)
    go_ret
    exact ⟨ret_bool HF.out.symm, rfl⟩
  | true =>
    have hy := bm_yes h1
    obtain ⟨hy1, hy2⟩ := hy
    have e0 : decide (0 < bm n) = true := by simp; omega
    by_cases h2 : (fl.length : Int) = bm n
    · have hb : (((fl.length : Nat) : Int) == bm n) = true := by simpa using h2
      have HF := Lib.hid (show flB n fl = true by simp [flB, h1, h2])
      clear h2
      go_enter Try.func50, Try.ntmps50
      go_wp2_with (go_at_call 67; refine (sBaseMany_any _ _).mono ?_; rintro e w' ⟨rfl, rfl⟩)
      go_ret
      exact ⟨ret_bool HF.out.symm, rfl⟩
    · have hb : (((fl.length : Nat) : Int) == bm n) = false := by simpa using h2
      have HF := Lib.hid (show flB n fl = false by simp [flB, h1, h2])
      clear h2
      go_enter Try.func50, Try.ntmps50
      go_wp2_with (go_at_call 67; refine (sBaseMany_any _ _).mono ?_; rintro e w' ⟨rfl, rfl⟩)
      go_ret
      exact ⟨ret_bool HF.out.symm, rfl⟩

set_option maxHeartbeats 4000000 in
theorem sFlagLinked_yes (N : Nat) (A : Option Addr) (c : Nat) (fl : List Bool) (w : World) (h : Rd w A (bools fl)) (hf : flB (N : Int) fl = true) {m : Nat} (hm : fl.length = m) :
    Calls Try.prog 19 #[.int .i64 (N : Int), .slice A m c] w (RetI w (linkL (N : Int) fl)) := by
  subst hm
  obtain ⟨N', e, n2, n7, hl⟩ := flB_ok hf
  obtain rfl : N = N' := by omega
  have hnb := nb_le n7
  have HL := Lib.hid hl
  have hl1 : fl.length ≤ 21 := by omega
  have HR := Lib.hid (linkL_mk hf)
  clear e hl
  obtain ⟨i0, hi, hz0, hz1, hz2⟩ := info_parts info_int
  go_enter Try.func19, Try.ntmps19
  go_wp2_with fail
  refine (l16Ok_any _ _ _ _ _ rfl (by omega)).mono ?_; rintro e w' ⟨rfl, rfl⟩
  rw [hf]
  go_wp2
  go_loopw [5, 6] (fun v i wr => ∃ k : Nat, k ≤ N ∧ i = .int .i64 k ∧ wr.ownsRow w.heap.size 3 1 v k (ints (natL k (fun v => v))) ∧ Below w.heap.size w wr) (fun _ i _ => N - (intOf i).toNat)
  case atStart => exact ⟨0, Nat.zero_le _, rfl, World.ownsRow_made w #[] 0 (Nat.le_refl _) (by simp [maxLen]) rfl, (Below.refl _ _).alloc (Nat.le_refl _) _⟩
  case round =>
    obtain ⟨k, hk, rfl, hv, hb⟩ := hrel
    by_cases hlt : k < N
    · have HV := Lib.hid hv
      have HB := Lib.hid hb
      have HS := Lib.hid (natL_snoc k)
      have m1 := Lib.hid (show k + 1 ≤ maxLen by simp [maxLen]; omega)
      have m2 := Lib.hid (show (k + 1) * 8 ≤ 140737488355328 by omega)
      have m3 := Lib.hid (base_a (o := .cells #[.int .i64 (k : Int)] 3) hb.size)
      clear hv hb
      go_wp2_with (at_builtin; refine wpList_append_lies _ rfl _ _ 28 rfl w.heap.size 3 i0 (.int .i64 0) 1 8 Try.underlying28 hi hz0 hz1 hz2 rfl (by decide) _ k (ints (natL k (fun v => v))) rfl (HV.out.alloc _) ⟨wr.heap.size, 0, none⟩ 1 1 [.int .i64 (k : Int)] rfl rfl (news_a _ _ _) (one_int _) (by decide) m1.out m2.out m3.out _ rfl ?_; intro g' cap w2 hown1 hgrow hat hlt1)
      go_roundw
      case rel => exact ⟨k + 1, by omega, by go_num, by rw [HS.out, ints_append]; exact hown1, bel_app HB.out hgrow (fun q hq => (HV.out.lt q hq).1)⟩
      case measure => simp [intOf]; omega
    · obtain rfl : k = N := by omega
      obtain ⟨Ao, co, rfl, hco, _⟩ := own_shape hv
      have ho := Ow.of_own hv
      obtain ⟨w1, rfl⟩ : ∃ wq : World, wq = wr := ⟨_, rfl⟩
      have hs1 := hb.size
      clear hv hlt
      go_wp2
      go_loopw [7] (fun i wr => ∃ (r : Nat) (L : Nat → Nat), r ≤ k ∧ i = .int .i64 r ∧ Rnds k fl L r ∧ Ow wr 3 w.heap.size w1.heap.size Ao (ints (natL k L)) ∧ w1.heap.size ≤ wr.heap.size ∧ Below w.heap.size w wr) (fun i _ => k - (intOf i).toNat)
      case atStart => exact ⟨0, _, Nat.zero_le _, rfl, Rnds.start fl n2 n7, ho, Nat.le_refl _, hb⟩
      case round =>
        clear ho hb
        obtain ⟨r, L, hr, rfl, hR, ho, hz, hb⟩ := hrel
        by_cases hlt : r < k
        · have d1 : decide ((r : Int) < (k : Int)) = true := by simp; omega
          have HRn := Lib.hid hR
          have HSw := Lib.hid (Swp.start hR.1)
          clear hR
          go_wp2
          go_loopw [8] (fun i wr => ∃ (i' : Nat) (M : Nat → Nat), i' ≤ k ∧ i = .int .i64 i' ∧ Swp k fl L M (idx k i' (i' + 1)) ∧ Ow wr 3 w.heap.size w1.heap.size Ao (ints (natL k M)) ∧ w1.heap.size ≤ wr.heap.size ∧ Below w.heap.size w wr) (fun i _ => k - (intOf i).toNat)
          case atStart => exact ⟨0, L, Nat.zero_le _, rfl, by rw [idx_zero n7]; exact HSw.out, ho, hz, hb⟩
          case round =>
            clear ho hb hz HSw
            obtain ⟨i, M, hik, rfl, hS, ho, hz, hb⟩ := hrel
            by_cases hlt1 : i < k
            · have d2 : decide ((i : Int) < (k : Int)) = true := by simp; omega
              have HS := Lib.hid hS
              clear hS
              go_wp2
              go_loopw [9] (fun j wr => ∃ (j' : Nat) (M : Nat → Nat), i + 1 ≤ j' ∧ j' ≤ k ∧ j = .int .i64 j' ∧ Swp k fl L M (idx k i j') ∧ Ow wr 3 w.heap.size w1.heap.size Ao (ints (natL k M)) ∧ w1.heap.size ≤ wr.heap.size ∧ Below w.heap.size w wr) (fun j _ => k - (intOf j).toNat)
              case atStart => exact ⟨i + 1, M, Nat.le_refl _, by omega, by go_num, HS.out, ho, hz, hb⟩
              case round =>
                clear ho hb hz HS
                obtain ⟨j, M, hij, hjk, rfl, hS, ho, hz, hb⟩ := hrel
                by_cases hlt2 : j < k
                · have hij' : i < j := by omega
                  have hx := (idx_at n7 hij' hlt2).1
                  have HN := Lib.hid (idx_next n7 hij' hlt2)
                  have HG := Lib.hid (gk_lt (N := k) hij')
                  have hr := h.below hb (Nat.le_refl _)
                  obtain ⟨b, off, rfl, hbl, hc⟩ := hr.bool_at (k := idx k i j) (by rw [HL.out]; exact hx)
                  have i1 : ((idx k i j : Nat) : Int) < (fl.length : Int) := by rw [HL.out]; omega
                  have hne : i ≠ j := by omega
                  have HNe := Lib.hid hne
                  have HI := Lib.hid (show idx k i j = idx k i j from rfl)
                  clear hne
                  cases hg : gb fl (idx k i j) with
                  | true =>
                    rw [hg] at hc
                    have HS := Lib.hid (hS.skip hg)
                    clear hS hg
                    go_wp2_with (go_at_call 51; refine (sBaseIndex_yes _ _ _ _ n2 n7 (by omega) hlt2 HNe.out).mono ?_; rintro e w' ⟨rfl, rfl⟩; rw [HG.out])
                    go_roundw
                    case rel => exact ⟨j + 1, M, by omega, by omega, by go_num, by rw [HN.out]; exact HS.out, ho, hz, hb⟩
                    case measure => simp [intOf]; omega
                  | false =>
                    rw [hg] at hc
                    have HS := Lib.hid (hS.step n7 hij' hlt2 rfl hg)
                    obtain ⟨q, of, rfl, q1, q2, q3, c1, f1, st1⟩ := ho.cell_at (k := i) (by simp; omega)
                    obtain ⟨q', of', e, _, _, _, c2, f2, _⟩ := ho.cell_at (k := j) (by simp; omega)
                    injection e with e
                    injection e with e1 e2
                    subst e1 e2
                    rw [ints_get (by simp; omega), gi_natL M (by omega)] at c1
                    rw [ints_get (by simp; omega), gi_natL M hlt2] at c2
                    have HT : Hid (∀ z : Int, z = ((min (M i) (M j) : Nat) : Int) → Ow ((wr.setCell ⟨q, of + i, none⟩ (.int .i64 z)).setCell ⟨q, of + j, none⟩ (.int .i64 z)) 3 w.heap.size w1.heap.size (some ⟨q, of, none⟩) (ints (natL k (low M i j)))) := Lib.hid fun z hz => by
                      obtain ⟨q', of', e, _, _, _, _, _, st2⟩ := (st1 (.int .i64 z)).cell_at (k := j) (by simp; omega)
                      injection e with e
                      injection e with e1 e2
                      subst e1 e2
                      have := st2 (.int .i64 z)
                      rwa [ints_set, ints_set, natL_low hij' hlt2 hz] at this
                    have HB : Hid (∀ z : Int, Below w.heap.size w ((wr.setCell ⟨q, of + i, none⟩ (.int .i64 z)).setCell ⟨q, of + j, none⟩ (.int .i64 z))) := Lib.hid fun z => (hb.setCell (by exact q1) _).setCell (by exact q1) _
                    have i2 : (i : Int) < (k : Int) := by omega
                    have i3 : (j : Int) < (k : Int) := by omega
                    clear hS hg st1
                    by_cases hle : M i ≤ M j
                    · have hle' : (M i : Int) ≤ (M j : Int) := by omega
                      have HM := Lib.hid (show ((M i : Nat) : Int) = ((min (M i) (M j) : Nat) : Int) by rw [Nat.min_eq_left hle])
                      go_wp2_with (go_at_call 51; refine (sBaseIndex_yes _ _ _ _ n2 n7 (by omega) hlt2 HNe.out).mono ?_; rintro e w' ⟨rfl, rfl⟩; rw [HG.out])
                      go_quiet (fail)
                      go_wp2
                      go_roundw
                      case rel => exact ⟨j + 1, low M i j, by omega, by omega, by go_num, by rw [HN.out]; exact HS.out, HT.out _ HM.out, by simpa [World.setCell] using hz, below_drewN (HB.out _) _⟩
                      case measure => simp [intOf]; omega
                    · have hle' : (M j : Int) < (M i : Int) := by omega
                      have hle2 : ¬ (M i : Int) ≤ (M j : Int) := by omega
                      have HM := Lib.hid (show ((M j : Nat) : Int) = ((min (M i) (M j) : Nat) : Int) by rw [Nat.min_eq_right (by omega)])
                      go_wp2_with (go_at_call 51; refine (sBaseIndex_yes _ _ _ _ n2 n7 (by omega) hlt2 HNe.out).mono ?_; rintro e w' ⟨rfl, rfl⟩; rw [HG.out])
                      go_quiet (fail)
                      go_wp2
                      go_roundw
                      case rel => exact ⟨j + 1, low M i j, by omega, by omega, by go_num, by rw [HN.out]; exact HS.out, HT.out _ HM.out, by simpa [World.setCell] using hz, below_drewN (HB.out _) _⟩
                      case measure => simp [intOf]; omega
                · obtain rfl : j = k := by omega
                  have HS := Lib.hid (show Swp j fl L M (idx j (i + 1) (i + 1 + 1)) by rw [← idx_row n7 hlt1]; exact hS)
                  clear hS
                  go_wp2
                  go_roundw
                  case rel => exact ⟨i + 1, M, by omega, by go_num, HS.out, ho, hz, hb⟩
                  case measure => simp [intOf]; omega
            · obtain rfl : i = k := by omega
              have HS := Lib.hid (HRn.out.next n7 (show Swp i fl L M (nb i) by rw [← idx_end n2 n7]; exact hS))
              have d2 : decide ((i : Int) < (i : Int)) = false := by simp
              clear hS
              go_wp2
              go_roundw
              case rel => exact ⟨r + 1, M, by omega, by go_num, HS.out, ho, hz, hb⟩
              case measure => simp [intOf]; omega
        · obtain rfl : r = k := by omega
          have HE := Lib.hid (show natL r L = linkL (r : Int) fl by rw [HR.out]; exact natL_congr hR.done)
          have HZ := Lib.hid (show (linkL (r : Int) fl).length = r by rw [HR.out]; simp)
          have d1 : decide ((r : Int) < (r : Int)) = false := by simp
          clear hR
          go_wp2
          go_ret
          exact ⟨Ao, co, by rw [HZ.out]; rfl, by rw [HZ.out]; exact hco, by rw [← HE.out]; exact ho.mono (Nat.le_refl _) hz, hb⟩
end Go.Proofs.Ytopneihamefohaa
