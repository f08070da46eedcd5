/-
  Contracts of SolveRest, of the program and of the reference, for all arguments.
-/
import Derived.Test.YtpdekpeknnlfmaaRest
import Derived.BigRegion
namespace Go.Proofs.Ytpdekpeknnlfmaa
set_option linter.unusedVariables false
open Go.RowKit
attribute [local go_sem] fieldV0 fieldV1

theorem SolveRest_any (n : Int) (A B C : Option Addr) (c d cc : Nat) (ls ms : List (Int × Int)) (ph : List Int) (w : World) (hls : Rd w A (pairs ls)) (hms : Rd w B (pairs ms)) (hph : Rd w C (ints ph)) (l1 : ls.length ≤ 1048592) (l2 : ms.length ≤ 1048592) (l3 : ph.length ≤ 1048592) {m m' m'' : Nat} (hm : ls.length = m) (hm' : ms.length = m') (hm'' : ph.length = m'') :
    Calls Try.prog 22 #[.int .i64 n, .slice A m c, .slice B m' d, .slice C m'' cc] w fun e w' => e = .returned (.int .i64 (solveRest n ls ms ph)) ∧ Below w.heap.size w w' := by
  subst hm hm' hm''
  cases hb : restB n ls ms ph with
  | false => rw [rest_no hb]; exact SolveRest_no n A B C c d cc ls ms ph w hls hms hph l1 l2 l3 hb
  | true =>
    obtain ⟨N, rfl, _⟩ := rest_parts hb
    rw [rest_mk hb]
    exact SolveRest_yes N A B C c d cc ls ms ph w hls hms hph hb
/-- the greatest rest of the baselines before (i, j) -/
def MxIJ (f : Nat → Int) (N i j : Nat) (v : Int) : Prop := 0 ≤ v ∧ v ≤ 180 ∧ (∀ p, p < nb N → (b1 N p < i ∨ (b1 N p = i ∧ b2 N p < j)) → f p ≤ v) ∧ (v = 0 ∨ ∃ p, p < nb N ∧ f p = v)
theorem mx_ge {f : Nat → Int} {n p : Nat} (h : p < n) : f p ≤ mx f n := by
  induction n with
  | zero => omega
  | succ n ih =>
    simp only [mx]
    by_cases e : p = n
    · subst e; omega
    · have := ih (by omega); omega
theorem mx_nn (f : Nat → Int) (n : Nat) : 0 ≤ mx f n := by
  induction n with
  | zero => simp [mx]
  | succ n ih => simp only [mx]; omega
theorem mx_le {f : Nat → Int} {n : Nat} {v : Int} (h0 : 0 ≤ v) (h : ∀ p, p < n → f p ≤ v) : mx f n ≤ v := by
  induction n with
  | zero => simpa [mx] using h0
  | succ n ih =>
    have h1 := ih (fun p hp => h p (by omega))
    have h2 := h n (by omega)
    simp only [mx]
    omega
theorem MxIJ.all {f : Nat → Int} {N : Nat} {v : Int} (n7 : N ≤ 7) (h : MxIJ f N N 0 v) : v = mx f (nb N) := by
  obtain ⟨h0, _, h1, h2⟩ := h
  have a := mx_le (f := f) (n := nb N) h0 (fun p hp => h1 p hp (.inl (by have := bs_at n7 hp; omega)))
  rcases h2 with rfl | ⟨p, hp, rfl⟩
  · have := mx_nn f (nb N); omega
  · have := mx_ge (f := f) hp; omega
theorem MxIJ.step {f : Nat → Int} {N i j p : Nat} {v u : Int} (n7 : N ≤ 7) (h : MxIJ f N i j v) (hij : i < j) (hp : p < nb N) (h1 : b1 N p = i) (h2 : b2 N p = j) (hu : f p ≤ 180) (e : u = max v (f p)) : MxIJ f N i (j + 1) u := by
  obtain ⟨h0, hv, ha, hb⟩ := h
  have HBB := Lib.hid hb
  clear hb
  refine ⟨by omega, by omega, fun q hq hc => ?_, ?_⟩
  · by_cases he : b1 N q = i ∧ b2 N q = j
    · have : q = p := by
        have a1 := (bs_at n7 hq).2.2
        have a2 := (bs_at n7 hp).2.2
        rw [he.1, he.2] at a1
        rw [h1, h2] at a2
        omega
      rw [this]; omega
    · have := ha q hq (by omega); omega
  · by_cases hvf : v ≤ f p
    · exact .inr ⟨p, hp, by omega⟩
    · rw [show u = v by omega]; exact HBB.out
/-- phases that have been looked at -/
def OkIJ (ph : List Int) (N i j : Nat) : Prop := ∀ k, k < N → (0 < i ∨ (1 < j ∧ k < j)) → phB (gi ph k) = true
theorem OkIJ.step {ph : List Int} {N i j : Nat} (h : OkIJ ph N i j) (hij : i < j) (h1 : phB (gi ph i) = true) (h2 : phB (gi ph j) = true) : OkIJ ph N i (j + 1) := fun k hk hc => by
  by_cases e1 : k = i
  · rw [e1]; exact h1
  by_cases e2 : k = j
  · rw [e2]; exact h2
  exact h k hk (by omega)
theorem OkIJ.next {ph : List Int} {N i : Nat} (n2 : 2 ≤ N) (h : OkIJ ph N i N) : OkIJ ph N (i + 1) 0 := fun k hk _ => h k hk (by omega)

set_option maxRecDepth 100000 in
set_option maxHeartbeats 2000000 in
theorem sSolveRest_any (n : Int) (A B C : Option Addr) (c d cc : Nat) (ls ms : List (Int × Int)) (ph : List Int) (w : World) (hls : Rd w A (pairs ls)) (hms : Rd w B (pairs ms)) (hph : Rd w C (ints ph)) (l1 : ls.length ≤ 1048592) (l2 : ms.length ≤ 1048592) (l3 : ph.length ≤ 1048592) {m m' m'' : Nat} (hm : ls.length = m) (hm' : ms.length = m') (hm'' : ph.length = m'') :
    Calls Try.prog 23 #[.int .i64 n, .slice A m c, .slice B m' d, .slice C m'' cc] w fun e w' => e = .returned (.int .i64 (solveRest n ls ms ph)) ∧ Below w.heap.size w w' := by
  subst hm hm' hm''
  cases v : visB n ls && visB n ms with
  | false =>
    rw [rest_no (by simp [restB, v])]
    go_enter Try.func23, Try.ntmps23
    go_wp2_with fail
    refine (l15Two_any _ _ _ _ _ _ _ _ hls hms l1 l2 rfl rfl).mono ?_; rintro e w' ⟨rfl, rfl⟩
    rw [v]
    go_wp2
    go_ret
    exact ⟨rfl, Below.refl _ _⟩
  | true =>
  have v' := v
  rw [Bool.and_eq_true] at v'
  obtain ⟨vl, vm⟩ := v'
  obtain ⟨N, rfl, n2, n7⟩ := many_nat (visB_ok vl).1
  by_cases hl : ph.length = N
  case neg =>
    have ne : ((ph.length : Int) != (N : Int)) = true := by simp; omega
    rw [rest_no (by simp [restB]; intros; omega)]
    go_enter Try.func23, Try.ntmps23
    go_wp2_with fail
    refine (l15Two_any _ _ _ _ _ _ _ _ hls hms l1 l2 rfl rfl).mono ?_; rintro e w' ⟨rfl, rfl⟩
    rw [v]
    go_wp2
    go_ret
    exact ⟨rfl, Below.refl _ _⟩
  have ne : ((ph.length : Int) != (N : Int)) = false := by rw [hl]; simp
  have LP := Lib.hid hl
  have HB := Lib.hid (fun (hp : allP ph = true) => restB_mk vl vm hl hp)
  have HNo := Lib.hid (fun (hp : allP ph = false) => show solveRest (N : Int) ls ms ph = -1 from rest_no (by simp [restB, hp]))
  clear hl
  go_enter Try.func23, Try.ntmps23
  go_wp2_with fail
  refine (l15Two_any _ _ _ _ _ _ _ _ hls hms l1 l2 rfl rfl).mono ?_; rintro e w' ⟨rfl, rfl⟩
  rw [v]
  clear v
  go_wp2
  go_loopw [9, 10] (fun u i wr => ∃ (k : Nat) (z : Int), k ≤ N ∧ i = .int .i64 k ∧ u = .int .i64 z ∧ MxIJ (restE ls ms ph N) N k 0 z ∧ OkIJ ph N k 0 ∧ Below w.heap.size w wr) (fun _ i _ => N - (intOf i).toNat)
  case atStart => exact ⟨0, 0, Nat.zero_le _, rfl, rfl, ⟨by omega, by omega, fun p hp h => absurd h (by omega), .inl rfl⟩, fun j hj h => absurd h (by omega), Below.refl _ _⟩
  case round =>
    obtain ⟨k, z, hk, rfl, rfl, hf, hok, hB⟩ := hrel
    by_cases hlt : k < N
    · have i1 : (k : Int) < (N : Int) := by omega
      go_wp2
      go_loopw [9, 11] (fun u j wr => ∃ (q : Nat) (z : Int), k < q ∧ q ≤ N ∧ j = .int .i64 q ∧ u = .int .i64 z ∧ MxIJ (restE ls ms ph N) N k q z ∧ OkIJ ph N k q ∧ Below w.heap.size w wr) (fun _ j _ => N - (intOf j).toNat)
      case atStart => exact ⟨k + 1, z, by omega, by omega, by go_num, rfl, ⟨hf.1, hf.2.1, fun p hp h => hf.2.2.1 p hp (.inl (by have := bs_at n7 hp; omega)), hf.2.2.2⟩, fun j hj h => hok j hj (by omega), hB⟩
      case round =>
        clear hf hB hok
        obtain ⟨q, z, hkq, hq, rfl, rfl, hf, hok, hB⟩ := hrel
        by_cases hqn : q < N
        · have i2 : (q : Int) < (N : Int) := by omega
          obtain ⟨hp, hb1, hb2⟩ := idx_at n7 hkq hqn
          obtain ⟨P, hP⟩ : ∃ P : Nat, P = idx N k q := ⟨_, rfl⟩
          have hg := gk_lt (N := N) hkq
          rw [← hP] at hp hb1 hb2 hg
          obtain ⟨qb, ob, rfl, hqb, a1⟩ := (hph.below hB (Nat.le_refl _)).int_at (k := k) (by rw [LP.out]; exact hlt)
          obtain ⟨qb', ob', ee, _, a2⟩ := (hph.below hB (Nat.le_refl _)).int_at (k := q) (by rw [LP.out]; exact hqn)
          injection ee with ee
          injection ee with ee1 ee2
          subst ee1 ee2
          have i3 : (k : Int) < (ph.length : Int) := by rw [LP.out]; omega
          have i4 : (q : Int) < (ph.length : Int) := by rw [LP.out]; omega
          cases pk : phB (gi ph k) with
          | false =>
            have HF := Lib.hid (HNo.out (allP_not (j := k) (by rw [LP.out]; exact hlt) pk))
            clear hok hf
            go_wp2_with (go_at_call 60; refine (l2Phase_any _ _).mono ?_; rintro e w' ⟨rfl, rfl⟩)
            go_ret
            exact ⟨by rw [HF.out]; rfl, hB⟩
          | true =>
          cases pq : phB (gi ph q) with
          | false =>
            have HF := Lib.hid (HNo.out (allP_not (j := q) (by rw [LP.out]; exact hqn) pq))
            clear hok hf
            go_wp2_with (go_at_call 60; refine (l2Phase_any _ _).mono ?_; rintro e w' ⟨rfl, rfl⟩)
            go_ret
            exact ⟨by rw [HF.out]; rfl, hB⟩
          | true =>
          have HOK := Lib.hid (hok.step hkq pk pq)
          have s1 := inB_true pk
          have s2 := inB_true pq
          obtain ⟨_, _, t1, t2⟩ := vis_at vl hp
          obtain ⟨_, _, t3, t4⟩ := vis_at vm hp
          obtain ⟨ev, hev⟩ : ∃ ev : Int, ev = restE ls ms ph N P := ⟨_, rfl⟩
          have eb : 0 ≤ ev ∧ ev ≤ 180 := by rw [hev]; exact near_bd _ _
          have HM := Lib.hid (fun (u : Int) (e : u = max z ev) => show MxIJ (restE ls ms ph N) N k (q + 1) u from hf.step n7 hkq hp hb1 hb2 (by rw [← hev]; first | done | exact eb.2) (by rw [← hev]; first | done | exact e))
          have zb : 0 ≤ z ∧ z ≤ 180 := ⟨hf.1, hf.2.1⟩
          unfold restE at hev
          rw [hb1, hb2] at hev
          have RD1 := Lib.hid (fun (w' : World) (h : Below w.heap.size w w') => show Calls Try.prog 61 #[.int .i64 (N : Int), .slice A ls.length c, .int .i64 (k : Int), .int .i64 (q : Int)] w' (fun e w'' => e = .returned (.agg #[.int .i64 (g1 ls P), .int .i64 (g2 ls P)]) ∧ Below w'.heap.size w' w'') by
            have := l11Get_any N k q A c ls w' (hls.below h (Nat.le_refl _)) vl n2 n7 hlt hqn (by omega) rfl
            rwa [vph_lt hkq, hg] at this)
          have RD2 := Lib.hid (fun (w' : World) (h : Below wr.heap.size wr w') => show Calls Try.prog 61 #[.int .i64 (N : Int), .slice B ms.length d, .int .i64 (k : Int), .int .i64 (q : Int)] w' (fun e w'' => e = .returned (.agg #[.int .i64 (g1 ms P), .int .i64 (g2 ms P)]) ∧ Below w'.heap.size w' w'') by
            have := l11Get_any N k q B d ms w' (hms.below (bel_trans hB h) (Nat.le_refl _)) vm n2 n7 hlt hqn (by omega) rfl
            rwa [vph_lt hkq, hg] at this)
          clear hf hok hp hb1 hb2 hg hP
          go_wp2_with (go_at_call 60; refine (l2Phase_any _ _).mono ?_; rintro e w' ⟨rfl, rfl⟩)
          generalize g2 ls P = pl at *
          generalize g2 ms P = pm at *
          generalize g1 ls P = al at *
          generalize g1 ms P = am_ at *
          generalize gi ph k = y1 at *
          generalize gi ph q = y2 at *
          have w1' : IntKind.i64.wrap (pm + y2) = pm + y2 := IntWalk.i64_in _ (by omega)
          have w2' : IntKind.i64.wrap (pm + y2 - y1) = pm + y2 - y1 := IntWalk.i64_in _ (by clear w1'; omega)
          have KC := Lib.hid (fun (w' : World) (h : Below wr.heap.size wr w') => And.intro (bel_cell h hqb a1) (bel_cell h hqb a2))
          have B0 := Lib.hid ((Below.refl wr.heap.size wr).drew)
          clear a1 a2
          go_region_held3 (fun w' => w'.cell? ⟨qb, ob + k, none⟩ = some (.int .i64 y1) ∧ w'.cell? ⟨qb, ob + q, none⟩ = some (.int .i64 y2)) (first | exact KC.out _ B1 | exact KC.out _ B0.out | go_keep) ((first
            | (go_at_call 61; with_reducible refine (RD2.out _ B0.out).mono ?_; rintro e wn5 ⟨rfl, b5⟩; have B1 := bel_trans B0.out b5; clear b5)
            | (go_at_call 56; (with_reducible refine (sPhaseOf_any _ _).mono ?_); rintro e wn6 ⟨rfl, rfl⟩)))
          obtain ⟨w5, rfl⟩ : ∃ wq : World, wq = wn5 := ⟨_, rfl⟩
          have b5 := bel_trans hB B1
          have NN := Lib.hid (show ∀ w : World, Calls Try.prog 62 #[.int .i64 pl, .int .i64 ((pm + y2 - y1) % 360)] w fun e w' => e = .returned (.int .i64 ev) ∧ w = w' by rw [hev]; exact fun w => sPhaseNear_any _ _ w (by omega) (by omega) (by omega) (by omega))
          clear w1' w2' KC B0 B1 RD2 hev hB
          rcases Int.lt_trichotomy z ev with h | h | h
          · have h2 : ¬ ev ≤ z := by omega
            have h3 := Lib.hid (show ev = max z ev by omega)
            go_wp2_with fail
            refine (RD1.out _ b5).mono ?_
            rintro e w6 ⟨rfl, b6⟩
            replace b6 := bel_trans b5 b6
            go_wp2_with fail
            refine (NN.out _).mono ?_
            rintro e w' ⟨rfl, rfl⟩
            go_wp2
            go_roundw
            case rel => exact ⟨q + 1, _, by omega, by omega, by go_num, rfl, HM.out _ h3.out, HOK.out, b6⟩
            case measure => simp [intOf]; omega
          · subst h
            have h3 := Lib.hid (show z = max z z by omega)
            go_wp2_with fail
            refine (RD1.out _ b5).mono ?_
            rintro e w6 ⟨rfl, b6⟩
            replace b6 := bel_trans b5 b6
            go_wp2_with fail
            refine (NN.out _).mono ?_
            rintro e w' ⟨rfl, rfl⟩
            go_wp2
            go_roundw
            case rel => exact ⟨q + 1, _, by omega, by omega, by go_num, rfl, HM.out _ h3.out, HOK.out, b6⟩
            case measure => simp [intOf]; omega
          · have h2 : ¬ z ≤ ev := by omega
            have h3 := Lib.hid (show z = max z ev by omega)
            go_wp2_with fail
            refine (RD1.out _ b5).mono ?_
            rintro e w6 ⟨rfl, b6⟩
            replace b6 := bel_trans b5 b6
            go_wp2_with fail
            refine (NN.out _).mono ?_
            rintro e w' ⟨rfl, rfl⟩
            go_wp2
            go_roundw
            case rel => exact ⟨q + 1, _, by omega, by omega, by go_num, rfl, HM.out _ h3.out, HOK.out, b6⟩
            case measure => simp [intOf]; omega
        · obtain rfl : q = N := by omega
          have HF := Lib.hid (show MxIJ (restE ls ms ph q) q (k + 1) 0 z from ⟨hf.1, hf.2.1, fun p hp h => hf.2.2.1 p hp (by have := bs_at n7 hp; omega), hf.2.2.2⟩)
          have HO := Lib.hid (hok.next n2)
          clear hf hok
          go_wp2
          go_roundw
          case rel => exact ⟨k + 1, z, by omega, by go_num, rfl, HF.out, HO.out, hB⟩
          case measure => simp [intOf]; omega
    · obtain rfl : k = N := by omega
      have HF := Lib.hid (show solveRest (k : Int) ls ms ph = z by
        rw [rest_mk (HB.out (allP_mk fun j hj => hok j (by rw [LP.out] at hj; exact hj) (.inl (by omega))))]
        exact (hf.all n7).symm)
      clear hf hok
      go_wp2
      go_ret
      exact ⟨by rw [HF.out]; rfl, hB⟩
end Go.Proofs.Ytpdekpeknnlfmaa
