/-
  Bases of closure phases: what tells them, and the reference's CloseVis.
-/
import Derived.Test.YtopneihamefohaaMany
import Derived.Test.YtopneihamefohaaGet
namespace Go.Proofs.Ytopneihamefohaa
set_option linter.unusedVariables false
open Go.RowKit

def allQ (xs : List Int) : Bool := xs.all phB
theorem allQ_at {xs : List Int} (h : allQ xs = true) {j : Nat} (hj : j < xs.length) : 0 ≤ gi xs j ∧ gi xs j < 360 := by
  unfold allQ at h
  rw [List.all_eq_true] at h
  have := inB_true (h xs[j] (List.getElem_mem hj))
  have e : gi xs j = xs[j] := by simp [gi, hj]
  omega
theorem allQ_mk {xs : List Int} (h : ∀ j, j < xs.length → phB (gi xs j) = true) : allQ xs = true := by
  unfold allQ
  rw [List.all_eq_true]
  intro x hx
  obtain ⟨j, hj, rfl⟩ := List.mem_iff_getElem.1 hx
  have e : gi xs j = xs[j] := by simp [gi, hj]
  rw [← e]
  exact h j hj
theorem allQ_not {xs : List Int} {j : Nat} (hj : j < xs.length) (h : phB (gi xs j) = false) : allQ xs = false := by
  cases hh : allQ xs with
  | false => rfl
  | true =>
    have := allQ_at hh hj
    rw [show phB (gi xs j) = true from inB_mk (by omega)] at h
    cases h
def baseB (n : Int) (xs : List Int) : Bool := !(cm n == 0) && decide ((xs.length : Int) = cm n) && allQ xs
theorem baseB_ok {n : Int} {xs : List Int} (h : baseB n xs = true) : ∃ N : Nat, n = (N : Int) ∧ 3 ≤ N ∧ N ≤ 7 ∧ xs.length = nb (N - 1) ∧ xs.length = nb N - (N - 1) ∧ allQ xs = true := by
  simp only [baseB, Bool.and_eq_true, Bool.not_eq_true', beq_eq_false_iff_ne, decide_eq_true_eq] at h
  obtain ⟨⟨h1, h2⟩, h3⟩ := h
  obtain ⟨e, _, _, _, _, a, b⟩ := cm_bm h1
  obtain ⟨N, rfl⟩ := Int.eq_ofNat_of_zero_le (show 0 ≤ n by omega)
  have hb := bm_nat (N := N) (by omega) (by omega)
  have hs : ∀ N : Fin 8, 3 ≤ N.1 → nb (N.1 - 1) = nb N.1 - (N.1 - 1) ∧ N.1 - 1 ≤ nb N.1 := by decide +kernel
  have := hs ⟨N, by omega⟩ (by show 3 ≤ N; omega)
  simp only at this
  exact ⟨N, rfl, by omega, by omega, by omega, by omega, h3⟩
/-- visibility p from a base -/
def cvF (N : Nat) (xs : List Int) (p : Nat) : Int × Int := (1, if p < N - 1 then 0 else gi xs (p - (N - 1)))
def closeVis (n : Int) (xs : List Int) : List (Int × Int) × Bool := if baseB n xs = true then (upto (cvF n.toNat xs) (nb n.toNat), true) else ([], false)
theorem cv_no {n : Int} {xs : List Int} (h : baseB n xs = false) : closeVis n xs = ([], false) := by simp [closeVis, h]
theorem cv_mk {N : Nat} {xs : List Int} (h : baseB (N : Int) xs = true) : closeVis (N : Int) xs = (upto (cvF N xs) (nb N), true) := by simp [closeVis, h]
theorem cv_len (n : Int) (xs : List Int) : (closeVis n xs).1.length ≤ 1048592 := by
  unfold closeVis
  split
  · rename_i h
    obtain ⟨N, rfl, _, h7, _⟩ := baseB_ok h
    have := nb_le h7
    simp; omega
  · simp
theorem cv_zero : ∀ N : Fin 8, ∀ q : Fin 8, 0 < q.1 → q.1 < N.1 → idx N.1 0 q.1 < N.1 - 1 := by decide +kernel
theorem cv_pos : ∀ N : Fin 8, ∀ i : Fin 8, ∀ q : Fin 8, 0 < i.1 → i.1 < q.1 → q.1 < N.1 → N.1 - 1 ≤ idx N.1 i.1 q.1 ∧ idx (N.1 - 1) (i.1 - 1) (q.1 - 1) = idx N.1 i.1 q.1 - (N.1 - 1) := by decide +kernel

theorem l14Ok_any (n : Int) (A : Option Addr) (c : Nat) (xs : List Int) (w : World) (h : Rd w A (ints xs)) (hl : xs.length ≤ 1048592) {m : Nat} (hm : xs.length = m) :
    Calls Try.prog 63 #[.int .i64 n, .slice A m c] w fun e w' => e = .returned (.bool (baseB n xs)) ∧ w = w' := by
  subst hm
  by_cases h1 : cm n = 0
  · have HF := Lib.hid (show baseB n xs = false by simp [baseB, h1])
    go_enter Try.func63, Try.ntmps63
    go_wp2_with (go_at_call 15; refine (sCloseMany_any _ _).mono ?_; rintro e w' ⟨rfl, rfl⟩)
    go_ret
    exact ⟨ret_bool HF.out.symm, rfl⟩
  have h1' : (cm n == 0) = false := by simpa using h1
  by_cases h2 : (xs.length : Int) = cm n
  case neg =>
    have HF := Lib.hid (show baseB n xs = false by simp [baseB, h2])
    have h2' : ((xs.length : Int) != cm n) = true := by simpa using h2
    go_enter Try.func63, Try.ntmps63
    go_wp2_with (go_at_call 15; refine (sCloseMany_any _ _).mono ?_; rintro e w' ⟨rfl, rfl⟩)
    go_ret
    exact ⟨ret_bool HF.out.symm, rfl⟩
  have h2' : ((xs.length : Int) != cm n) = false := by simpa using h2
  have HB := Lib.hid (show baseB n xs = allQ xs by simp [baseB, h1', h2])
  clear h2
  go_enter Try.func63, Try.ntmps63
  go_wp2_with (go_at_call 15; refine (sCloseMany_any _ _).mono ?_; rintro e w' ⟨rfl, rfl⟩)
  go_loop [5] (fun i => ∃ k : Nat, k ≤ xs.length ∧ i = .int .i64 k ∧ ∀ j, j < k → phB (gi xs j) = true) (fun i => xs.length - (intOf i).toNat)
  case atStart => exact ⟨0, Nat.zero_le _, rfl, fun j hj => absurd hj (by omega)⟩
  case round =>
    obtain ⟨k, hk, rfl, hv⟩ := hrel
    by_cases hlt : k < xs.length
    · obtain ⟨b, off, rfl, hbl, hc⟩ := h.int_at hlt
      have i1 : (k : Int) < (xs.length : Int) := by omega
      cases e : phB (gi xs k) with
      | false =>
        have HF := Lib.hid (allQ_not hlt e)
        clear hv
        go_wp2_with (go_at_call 69; refine (l2Phase_any _ _).mono ?_; rintro e w' ⟨rfl, rfl⟩)
        go_ret
        exact ⟨ret_bool (by rw [HB.out, HF.out]), rfl⟩
      | true =>
        have HV := Lib.hid (show ∀ j, j < k + 1 → phB (gi xs j) = true from fun j hj => by
          by_cases hjk : j = k
          · rw [hjk]; exact e
          · exact hv j (by omega))
        clear hv
        go_wp2_with (go_at_call 69; refine (l2Phase_any _ _).mono ?_; rintro e w' ⟨rfl, rfl⟩)
        go_round
        case rel => exact ⟨k + 1, by omega, by go_num, HV.out⟩
        case measure => simp [intOf]; omega
    · obtain rfl : k = xs.length := by omega
      have HN := Lib.hid (allQ_mk hv)
      clear hv
      go_wp2
      go_ret
      exact ⟨ret_bool (by rw [HB.out, HN.out]), rfl⟩
theorem l14Get_yes (N i q : Nat) (A : Option Addr) (c : Nat) (xs : List Int) (w : World) (h : Rd w A (ints xs)) (hb : baseB (N : Int) xs = true) (n3 : 3 ≤ N) (n7 : N ≤ 7) (hx : xs.length = nb (N - 1)) (hiq : i < q) (hq : q < N) {m : Nat} (hm : xs.length = m) :
    Calls Try.prog 64 #[.int .i64 (N : Int), .slice A m c, .int .i64 (i : Int), .int .i64 (q : Int)] w fun e w' => e = .returned (.int .i64 (cvF N xs (idx N i q)).2) ∧ w = w' := by
  subst hm
  by_cases h0 : i = 0
  · subst h0
    have HF := Lib.hid (show (cvF N xs (idx N 0 q)).2 = 0 by unfold cvF; rw [if_pos (cv_zero ⟨N, by omega⟩ ⟨q, by omega⟩ hiq hq)])
    go_enter Try.func64, Try.ntmps64
    go_wp2
    go_ret
    exact ⟨by rw [HF.out]; rfl, rfl⟩
  · obtain ⟨p1, p2⟩ := cv_pos ⟨N, by omega⟩ ⟨i, by omega⟩ ⟨q, by omega⟩ (by show 0 < i; omega) hiq hq
    simp only at p1 p2
    have HF := Lib.hid (show (cvF N xs (idx N i q)).2 = gi xs (idx (N - 1) (i - 1) (q - 1)) by unfold cvF; rw [if_neg (by omega), p2])
    have hk := (idx_at (N := N - 1) (i := i - 1) (j := q - 1) (by omega) (by omega) (by omega)).1
    have HI := Lib.hid (show bi ((N : Int) - 1) ((i : Int) - 1) ((q : Int) - 1) = ((idx (N - 1) (i - 1) (q - 1) : Nat) : Int) by
      have := bi_mk (N := N - 1) (I := i - 1) (J := q - 1) (by omega) (by omega) (by omega) (by omega) (by omega)
      rw [gk_lt (by omega)] at this
      rw [← this]
      congr 1 <;> omega)
    obtain ⟨b, off, rfl, hbl, hc⟩ := h.int_at (k := idx (N - 1) (i - 1) (q - 1)) (by omega)
    generalize idx (N - 1) (i - 1) (q - 1) = K at *
    have i1 : (K : Int) < (xs.length : Int) := by omega
    have e0 : ((i : Int) == 0) = false := by simp; omega
    have e1 : ((q : Int) == 0) = false := by simp; omega
    have e2 : ¬ (q : Int) < (i : Int) := by omega
    have w1' : IntKind.i64.wrap ((N : Int) - 1) = (N : Int) - 1 := IntWalk.i64_in _ (by omega)
    have w2' : IntKind.i64.wrap ((i : Int) - 1) = (i : Int) - 1 := IntWalk.i64_in _ (by clear w1'; omega)
    have w3' : IntKind.i64.wrap ((q : Int) - 1) = (q : Int) - 1 := IntWalk.i64_in _ (by clear w1' w2'; omega)
    clear p1 p2 hx
    go_enter Try.func64, Try.ntmps64
    go_wp2_with fail
    refine (sBaseIndex_any _ _ _ _).mono ?_; rintro e w' ⟨rfl, rfl⟩
    rw [HI.out]
    clear w1' w2' w3'
    go_wp2
    go_ret
    exact ⟨by rw [HF.out]; rfl, rfl⟩
set_option maxHeartbeats 2000000 in
theorem sCloseVis_any (n : Int) (A : Option Addr) (c : Nat) (xs : List Int) (w : World) (h : Rd w A (ints xs)) (hl : xs.length ≤ 1048592) {m : Nat} (hm : xs.length = m) :
    Calls Try.prog 41 #[.int .i64 n, .slice A m c] w (RetG w 44 (closeVis n xs)) := by
  subst hm
  have bw : Below w.heap.size w (w.alloc (.cells #[] 44)) := (Below.refl w.heap.size w).alloc (Nat.le_refl _) _
  have h' := h.below bw (Nat.le_refl _)
  cases hb : baseB n xs with
  | false =>
    rw [cv_no hb]
    have BW := Lib.hid bw
    go_enter Try.func41, Try.ntmps41
    go_wp2_with fail
    refine (l14Ok_any _ _ _ _ _ h' hl rfl).mono ?_; rintro e w' ⟨rfl, rfl⟩
    rw [hb]
    go_wp2
    go_ret2
    exact RetG.none_ _ _ BW.out
  | true =>
    obtain ⟨N, rfl, n3, n7, hx, hx2, hx3⟩ := baseB_ok hb
    have HF := Lib.hid (cv_mk hb)
    have HX := Lib.hid hx
    have st0 : ApG w (w.alloc (.cells #[] 44)) 44 (.slice (some ⟨w.heap.size, 0, none⟩) 0 0) (cvF N xs) 0 := ⟨World.ownsRow_made w #[] 0 (Nat.le_refl _) (by simp [maxLen]) rfl, bw⟩
    have ST0 := Lib.hid st0
    have hnb := nb_le n7
    obtain ⟨i0, hi, hz0, hz1, hz2⟩ := info_parts info_Vis
    clear st0 bw hx hx2 hx3
    go_enter Try.func41, Try.ntmps41
    go_wp2_with fail
    refine (l14Ok_any _ _ _ _ _ h' hl rfl).mono ?_; rintro e w' ⟨rfl, rfl⟩
    have HBB := Lib.hid hb
    rw [hb]
    clear hb h'
    go_wp2
    go_loopw [6, 7] (fun v i wr => ∃ k : Nat, k ≤ N ∧ i = .int .i64 k ∧ ApG w wr 44 v (cvF N xs) (idx N k (k + 1))) (fun _ i _ => N - (intOf i).toNat)
    case atStart => exact ⟨0, Nat.zero_le _, rfl, by rw [show idx N 0 (0 + 1) = 0 by simp [idx]]; exact ST0.out⟩
    case round =>
      clear ST0
      obtain ⟨k, hk, rfl, hrel⟩ := hrel
      by_cases hlt : k < N
      · have i1 : (k : Int) < (N : Int) := by omega
        have HR0 := Lib.hid hrel
        clear hrel
        go_wp2
        go_loopw [6, 8] (fun v j wr => ∃ l : Nat, k < l ∧ l ≤ N ∧ j = .int .i64 l ∧ ApG w wr 44 v (cvF N xs) (idx N k l)) (fun _ j _ => N - (intOf j).toNat)
        case atStart => exact ⟨k + 1, by omega, by omega, by go_num, HR0.out⟩
        case round =>
          clear HR0
          obtain ⟨l, hkl, hl2, rfl, hrel⟩ := hrel
          by_cases hln : l < N
          · have i2 : (l : Int) < (N : Int) := by omega
            have hp := (idx_at n7 hkl hln).1
            have HN := Lib.hid (idx_next n7 hkl hln)
            have HC := Lib.hid (l14Get_yes N k l A c xs wr (h.below hrel.2 (Nat.le_refl _)) HBB.out n3 n7 HX.out hkl hln rfl)
            have H1 := Lib.hid hrel
            have H2 := Lib.hid (show (cvF N xs (idx N k l)).1 = 1 from rfl)
            have hsz := hrel.2.size
            clear hrel
            generalize idx N k l = p at *
            obtain ⟨y, hy⟩ : ∃ y : Int, y = (cvF N xs p).2 := ⟨_, rfl⟩
            have HY := Lib.hid hy
            rw [← hy] at HC
            clear hy
            have m1 := Lib.hid (show p + 1 ≤ maxLen by simp [maxLen]; omega)
            have m2 := Lib.hid (show (p + 1) * 16 ≤ 140737488355328 by omega)
            have m3 := Lib.hid (base_a (o := .cells #[.int .i64 1, .int .i64 y] 44) hsz)
            go_wp2_with fail
            refine (HC.out).mono ?_; rintro e w' ⟨rfl, rfl⟩
            go_wp2_with (at_builtin; refine wpList_append_lies _ rfl _ _ 47 rfl w.heap.size 44 i0 (.agg #[.int .i64 0, .int .i64 0]) 2 16 Try.underlying47 hi hz0 hz1 hz2 rfl (by decide) _ p (pairs (upto (cvF N xs) p)) rfl (H1.out.1.alloc _) ⟨wr.heap.size, 0, none⟩ 1 1 [.int .i64 1, .int .i64 y] rfl rfl (news2 _ _ _ _) (one2 _ _) (by decide) m1.out m2.out m3.out _ rfl ?_; intro g cap w5 hown1 hgrow hat hlt1)
            go_roundw
            case rel => exact ⟨l + 1, by omega, by omega, by go_num, by rw [HN.out]; exact ApG.step (f := cvF N xs) H1.out (by rw [H2.out, ← HY.out]; exact hown1) hgrow⟩
            case measure => simp [intOf]; omega
          · obtain rfl : l = N := by omega
            have HR := Lib.hid hrel
            have HN := Lib.hid (idx_row n7 hlt)
            clear hrel
            go_wp2
            go_roundw
            case rel => exact ⟨k + 1, by omega, by go_num, by rw [← HN.out]; exact HR.out⟩
            case measure => simp [intOf]; omega
      · obtain rfl : k = N := by omega
        rw [idx_end (by omega) n7] at hrel
        obtain ⟨Ao, co, rfl, hco, _⟩ := own_shape hrel.1
        have ho := Ow.of_own hrel.1
        have hbw := hrel.2
        clear hrel
        go_wp2
        go_ret2
        rw [HF.out]
        exact ⟨Ao, co, by simp, by simpa using hco, ho, hbw⟩
end Go.Proofs.Ytopneihamefohaa
