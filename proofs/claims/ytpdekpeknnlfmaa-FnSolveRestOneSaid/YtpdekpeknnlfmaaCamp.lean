/-
  Contracts of CloseAmp, of the program and of the reference, and of what they call.
-/
import Derived.Test.YtpdekpeknnlfmaaCampP
import Derived.Test.YtpdekpeknnlfmaaInts
namespace Go.Proofs.Ytpdekpeknnlfmaa
set_option linter.unusedVariables false
open Go.RowKit

def inL (zs : List Int) (x : Int) : Bool := decide (x ∈ zs)
/-- antennas that exist and are different -/
def ApTo (n : Int) (zs : List Int) (k : Nat) : Prop := ∀ j, j < k → antB n (gi zs j) = true ∧ ∀ m, m < j → gi zs m ≠ gi zs j
instance (n : Int) (zs : List Int) (k : Nat) : Decidable (ApTo n zs k) := by unfold ApTo; infer_instance
def apL (n : Int) (zs : List Int) : Bool := decide (ApTo n zs zs.length)
theorem ApTo.zero (n : Int) (zs : List Int) : ApTo n zs 0 := fun j hj => absurd hj (by omega)
theorem ApTo.step {n : Int} {zs : List Int} {k : Nat} (h : ApTo n zs k) (h1 : antB n (gi zs k) = true) (h2 : ∀ m, m < k → gi zs m ≠ gi zs k) : ApTo n zs (k + 1) := fun j hj => by
  by_cases e : j = k
  · subst e; exact ⟨h1, h2⟩
  · exact h j (by omega)
theorem apL_all {n : Int} {zs : List Int} (h : ApTo n zs zs.length) : apL n zs = true := by simp [apL, h]
theorem apL_ant {n : Int} {zs : List Int} {k : Nat} (hk : k < zs.length) (h : antB n (gi zs k) = false) : apL n zs = false := by
  unfold apL
  rw [decide_eq_false]
  intro hh
  rw [(hh k hk).1] at h
  cases h
theorem apL_eq {n : Int} {zs : List Int} {k m : Nat} (hk : k < zs.length) (hm : m < k) (h : gi zs m = gi zs k) : apL n zs = false := by
  unfold apL
  rw [decide_eq_false]
  intro hh
  exact (hh k hk).2 m hm h
theorem apL_four (n i j k l : Int) : apL n [i, j, k, l] = apart4 n i j k l := by
  rw [Bool.eq_iff_iff]
  unfold apL
  rw [decide_eq_true_eq]
  constructor
  · intro h
    have a0 := h 0 (by simp)
    have a1 := h 1 (by simp)
    have a2 := h 2 (by simp)
    have a3 := h 3 (by simp)
    have b10 := a1.2 0 (by omega)
    have b20 := a2.2 0 (by omega)
    have b21 := a2.2 1 (by omega)
    have b30 := a3.2 0 (by omega)
    have b31 := a3.2 1 (by omega)
    have b32 := a3.2 2 (by omega)
    simp only [gi, List.getD_cons_zero, List.getD_cons_succ] at *
    simp [apart4, a0.1, a1.1, a2.1, a3.1, b10, b20, b21, b30, b31, b32]
  · intro h
    simp only [apart4, Bool.and_eq_true, Bool.not_eq_true', beq_eq_false_iff_ne] at h
    obtain ⟨⟨⟨⟨⟨⟨⟨⟨⟨h1, h2⟩, h3⟩, h4⟩, e1⟩, e2⟩, e3⟩, e4⟩, e5⟩, e6⟩ := h
    intro p hp
    simp only [List.length_cons, List.length_nil] at hp
    match p, hp with
    | 0, _ => exact ⟨h1, fun m hm => absurd hm (by omega)⟩
    | 1, _ => exact ⟨h2, fun m hm => by match m, hm with | 0, _ => exact e1⟩
    | 2, _ => exact ⟨h3, fun m hm => by match m, hm with | 0, _ => exact e2 | 1, _ => exact e3⟩
    | 3, _ => exact ⟨h4, fun m hm => by match m, hm with | 0, _ => exact e4 | 1, _ => exact e5 | 2, _ => exact e6⟩
theorem gi_take {zs : List Int} {k j : Nat} (h : j < k) (hk : k ≤ zs.length) : gi (zs.take k) j = gi zs j := by
  simp [gi, h]
theorem Rd.take {w : World} {b off : Nat} {zs : List Int} (h : Rd w (some ⟨b, off, none⟩) (ints zs)) (k : Nat) (hk : k ≤ zs.length) : Rd w (some ⟨b, off, none⟩) (ints (zs.take k)) := by
  intro h0
  obtain ⟨b', off', e, hc⟩ := h (by simp only [ints_length, List.length_take] at h0 ⊢; omega)
  injection e with e
  injection e with e1 e2
  subst e1 e2
  refine ⟨b, off, rfl, fun i hi => ?_⟩
  simp only [ints_length, List.length_take] at hi
  rw [hc i (by simp; omega), ints_get (by omega), ints_get (by simp; omega), gi_take (by omega) hk]
theorem inL_no {zs : List Int} {x : Int} (h : ∀ j, j < zs.length → gi zs j ≠ x) : inL zs x = false := by
  unfold inL
  rw [decide_eq_false]
  intro hx
  obtain ⟨j, hj, e⟩ := List.mem_iff_getElem.1 hx
  exact h j hj (by rw [← e]; simp [gi, hj])
theorem inL_yes {zs : List Int} {x : Int} {j : Nat} (hj : j < zs.length) (h : gi zs j = x) : inL zs x = true := by
  unfold inL
  rw [decide_eq_true_eq, ← h]
  have e : gi zs j = zs[j] := by simp [gi, hj]
  rw [e]
  exact List.getElem_mem hj
theorem inL_false {zs : List Int} {x : Int} (h : inL zs x = false) : ∀ j, j < zs.length → gi zs j ≠ x := fun j hj e => by rw [inL_yes hj e] at h; cases h
theorem inL_true {zs : List Int} {x : Int} (h : inL zs x = true) : ∃ j, j < zs.length ∧ gi zs j = x := by
  unfold inL at h
  rw [decide_eq_true_eq] at h
  obtain ⟨j, hj, e⟩ := List.mem_iff_getElem.1 h
  exact ⟨j, hj, by rw [← e]; simp [gi, hj]⟩

/-- where a number stands -/
def IxP (zs : List Int) (x : Int) (w : World) (e : Ending) (w' : World) : Prop := ∃ r : Int, e = .returned (.int .i64 r) ∧ decide (0 ≤ r) = inL zs x ∧ w = w'
theorem Index_any (A : Option Addr) (c : Nat) (zs : List Int) (x : Int) (w : World) (h : Rd w A (ints zs)) (hl : zs.length ≤ 1000) {n : Nat} (hn : zs.length = n) :
    Calls Try.prog 89 #[.slice A n c, .int .i64 x] w (IxP zs x w) := by
  subst hn
  go_enter Try.func89, Try.ntmps89
  go_wp2
  go_loop [8] (fun i => ∃ k : Nat, k ≤ zs.length ∧ i = .int .i64 k ∧ ∀ j, j < k → gi zs j ≠ x) (fun i => zs.length - (intOf i).toNat)
  case atStart => exact ⟨0, Nat.zero_le _, rfl, fun j hj => absurd hj (by omega)⟩
  case round =>
    obtain ⟨k, hk, rfl, hv⟩ := hrel
    by_cases hlt : k < zs.length
    · obtain ⟨b, off, rfl, hbl, hc⟩ := h.int_at hlt
      have i1 : (k : Int) < (zs.length : Int) := by omega
      by_cases e : gi zs k = x
      · have HY := Lib.hid (inL_yes hlt e)
        have e0 : (x == gi zs k) = true := by simp [e]
        clear hv e
        go_wp2
        go_ret
        exact ⟨(k : Int), rfl, by rw [HY.out]; simp, rfl⟩
      · have e0 : (x == gi zs k) = false := by simp; exact fun h => e h.symm
        have HV := Lib.hid (show ∀ j, j < k + 1 → gi zs j ≠ x from fun j hj => by
          by_cases hjk : j = k
          · rw [hjk]; exact e
          · exact hv j (by omega))
        clear hv e
        go_wp2
        go_round
        case rel => exact ⟨k + 1, by omega, by go_num, HV.out⟩
        case measure => simp [intOf]; omega
    · obtain rfl : k = zs.length := by omega
      have HN := Lib.hid (inL_no hv)
      clear hv
      go_wp2
      go_ret
      exact ⟨-1, rfl, by rw [HN.out]; simp, rfl⟩
theorem Contains_any (A : Option Addr) (c : Nat) (zs : List Int) (x : Int) (w : World) (h : Rd w A (ints zs)) (hl : zs.length ≤ 1000) {n : Nat} (hn : zs.length = n) :
    Calls Try.prog 88 #[.slice A n c, .int .i64 x] w fun e w' => e = .returned (.bool (inL zs x)) ∧ w = w' := by
  cases hb : inL zs x with
  | false =>
    go_enter Try.func88, Try.ntmps88
    go_wp2_with fail
    refine (Index_any _ _ _ _ _ h hl hn).mono ?_
    rintro e w' ⟨r, rfl, d, rfl⟩
    rw [hb] at d
    go_wp2
    go_ret
    exact ⟨rfl, rfl⟩
  | true =>
    go_enter Try.func88, Try.ntmps88
    go_wp2_with fail
    refine (Index_any _ _ _ _ _ h hl hn).mono ?_
    rintro e w' ⟨r, rfl, d, rfl⟩
    rw [hb] at d
    go_wp2
    go_ret
    exact ⟨rfl, rfl⟩
set_option maxHeartbeats 400000 in
theorem differentAnts_any (n : Int) (A : Option Addr) (c : Nat) (zs : List Int) (w : World) (h : Rd w A (ints zs)) (hl : zs.length ≤ 1000) {m : Nat} (hm : zs.length = m) (hc : m ≤ c) :
    Calls Try.prog 67 #[.int .i64 n, .slice A m c] w fun e w' => e = .returned (.bool (apL n zs)) ∧ w = w' := by
  subst hm
  go_enter Try.func67, Try.ntmps67
  go_wp2
  go_loop [9] (fun i => ∃ k : Nat, k ≤ zs.length ∧ i = .int .i64 k ∧ ApTo n zs k) (fun i => zs.length - (intOf i).toNat)
  case atStart => exact ⟨0, Nat.zero_le _, rfl, ApTo.zero _ _⟩
  case round =>
    obtain ⟨k, hk, rfl, hv⟩ := hrel
    by_cases hlt : k < zs.length
    · obtain ⟨b, off, rfl, hbl, hcc⟩ := h.int_at hlt
      have i1 : (k : Int) < (zs.length : Int) := by omega
      have i2 : (k : Int) ≤ (c : Int) := by omega
      have HT := Lib.hid (h.take k (by omega))
      have HL := Lib.hid (show (zs.take k).length = k by simp; omega)
      cases ha : antB n (gi zs k) with
      | false =>
        have HF := Lib.hid (apL_ant hlt ha)
        clear hv
        go_wp2_with (go_at_call 52; refine (isAnt_any _ _ _).mono ?_; rintro e w' ⟨rfl, rfl⟩)
        go_ret
        exact ⟨ret_bool HF.out.symm, rfl⟩
      | true =>
        cases hi : inL (zs.take k) (gi zs k) with
        | true =>
          obtain ⟨j, hj, e⟩ := inL_true hi
          have hj' : j < k := by rw [HL.out] at hj; exact hj
          rw [gi_take hj' hk] at e
          have HF := Lib.hid (apL_eq (n := n) hlt hj' e)
          clear hv e hj
          go_wp2_with (first | (go_at_call 52; refine (isAnt_any _ _ _).mono ?_; rintro e w' ⟨rfl, rfl⟩) | (go_at_call 88; refine (Contains_any _ _ _ _ _ HT.out (by rw [HL.out]; omega) HL.out).mono ?_; rintro e w' ⟨rfl, rfl⟩))
          go_ret
          exact ⟨ret_bool HF.out.symm, rfl⟩
        | false =>
          have HF := Lib.hid (hv.step ha (fun m hm => by
            have := inL_false hi m (by rw [HL.out]; exact hm)
            rwa [gi_take hm hk] at this))
          clear hv
          go_wp2_with (first | (go_at_call 52; refine (isAnt_any _ _ _).mono ?_; rintro e w' ⟨rfl, rfl⟩) | (go_at_call 88; refine (Contains_any _ _ _ _ _ HT.out (by rw [HL.out]; omega) HL.out).mono ?_; rintro e w' ⟨rfl, rfl⟩))
          go_round
          case rel => exact ⟨k + 1, by omega, by go_num, HF.out⟩
          case measure => simp [intOf]; omega
    · obtain rfl : k = zs.length := by omega
      have HN := Lib.hid (apL_all hv)
      clear hv
      go_wp2
      go_ret
      exact ⟨ret_bool HN.out.symm, rfl⟩
set_option maxHeartbeats 800000 in
theorem l13Apart_any (n : Int) (A : Option Addr) (c : Nat) (zs : List Int) (w : World) (h : Rd w A (ints zs)) (hl : zs.length ≤ 1000) (hn1 : -1000 ≤ n) (hn2 : n ≤ 1000) {m : Nat} (hm : zs.length = m) :
    Calls Try.prog 64 #[.int .i64 n, .slice A m c] w fun e w' => e = .returned (.bool (apL n zs)) ∧ Below w.heap.size w w' := by
  subst hm
  go_enter Try.func64, Try.ntmps64
  go_wp2
  go_loopw [5] (fun i wr => ∃ k : Nat, k ≤ zs.length ∧ i = .int .i64 k ∧ ApTo n zs k ∧ Below w.heap.size w wr) (fun i _ => zs.length - (intOf i).toNat)
  case atStart => exact ⟨0, Nat.zero_le _, rfl, ApTo.zero _ _, Below.refl _ _⟩
  case round =>
    obtain ⟨k, hk, rfl, hv, hb⟩ := hrel
    by_cases hlt : k < zs.length
    · obtain ⟨b, off, rfl, hbl, hcc⟩ := (h.below hb (Nat.le_refl _)).int_at hlt
      have i1 : (k : Int) < (zs.length : Int) := by omega
      have d1 : decide ((k : Int) < (zs.length : Int)) = true := by simpa using i1
      cases ha : antB n (gi zs k) with
      | false =>
        have ha' : inB (gi zs k) 0 (n - 1) = false := ha
        have HF := Lib.hid (apL_ant hlt ha)
        clear hv
        go_wp2_with (go_at_call 84; refine (l6In_any _ _ _ _).mono ?_; rintro e w' ⟨rfl, rfl⟩)
        go_ret
        exact ⟨ret_bool HF.out.symm, hb⟩
      | true =>
        have ha' : inB (gi zs k) 0 (n - 1) = true := ha
        have HV := Lib.hid hv
        clear hv
        go_wp2_with (go_at_call 84; refine (l6In_any _ _ _ _).mono ?_; rintro e w' ⟨rfl, rfl⟩)
        go_loopw [6] (fun i wq => ∃ j : Nat, j ≤ k ∧ i = .int .i64 j ∧ (∀ m, m < j → gi zs m ≠ gi zs k) ∧ Below w.heap.size w wq) (fun i _ => k - (intOf i).toNat)
        case atStart => exact ⟨0, Nat.zero_le _, rfl, fun m hm => absurd hm (by omega), hb⟩
        case round =>
          clear hb hcc
          obtain ⟨j, hj, rfl, hq, hb⟩ := hrel
          by_cases hlt2 : j < k
          · have hr := h.below hb (Nat.le_refl _)
            obtain ⟨b', off', e, _, hc1⟩ := hr.int_at (k := k) hlt
            injection e with e
            injection e with e1 e2
            subst e1 e2
            obtain ⟨b', off', e, _, hc2⟩ := hr.int_at (k := j) (by omega)
            injection e with e
            injection e with e1 e2
            subst e1 e2
            have i2 : (j : Int) < (zs.length : Int) := by omega
            by_cases e : gi zs j = gi zs k
            · have HF := Lib.hid (apL_eq (n := n) hlt hlt2 e)
              have e0 : (gi zs j == gi zs k) = true := by simp [e]
              clear hq e
              go_wp2
              go_quiet (fail)
              go_wp2
              go_ret
              exact ⟨ret_bool HF.out.symm, below_drewN hb _⟩
            · have e0 : (gi zs j == gi zs k) = false := by simp [e]
              have HQ := Lib.hid (show ∀ m, m < j + 1 → gi zs m ≠ gi zs k from fun m hm => by
                by_cases hmj : m = j
                · rw [hmj]; exact e
                · exact hq m (by omega))
              clear hq e
              go_wp2
              go_quiet (fail)
              go_wp2
              go_roundw
              case rel => exact ⟨j + 1, by omega, by go_num, HQ.out, below_drewN hb _⟩
              case measure => simp [intOf]; omega
          · obtain rfl : j = k := by omega
            have HF := Lib.hid (HV.out.step ha hq)
            clear hq
            go_wp2
            go_roundw
            case rel => exact ⟨j + 1, by omega, by go_num, HF.out, hb⟩
            case measure => simp [intOf]; omega
    · obtain rfl : k = zs.length := by omega
      have HN := Lib.hid (apL_all hv)
      have d1 : decide ((zs.length : Int) < (zs.length : Int)) = false := by simp
      clear hv
      go_wp2
      go_ret
      exact ⟨ret_bool HN.out.symm, hb⟩
set_option maxHeartbeats 400000 in
theorem gcd_any (a b : Int) (w : World) (a0 : 0 ≤ a) (a1 : a ≤ 1000000000000) (b0 : 0 ≤ b) (b1' : b ≤ 1000000000000) :
    Calls Try.prog 69 #[.int .i64 a, .int .i64 b] w fun e w' => e = .returned (.int .i64 (gcdI a b)) ∧ Below w.heap.size w w' := by
  go_enter Try.func69, Try.ntmps69
  go_wp2
  go_loopw [0, 1] (fun u v wr => ∃ p q : Int, u = .int .i64 p ∧ v = .int .i64 q ∧ 0 ≤ p ∧ p ≤ 1000000000000 ∧ 0 ≤ q ∧ q ≤ 1000000000000 ∧ gcdI p q = gcdI a b ∧ Below w.heap.size w wr) (fun _ v _ => (intOf v).toNat)
  case atStart => exact ⟨a, b, rfl, rfl, a0, a1, b0, b1', rfl, Below.refl _ _⟩
  case round =>
    obtain ⟨p, q, rfl, rfl, p0, p1, q0, q1, hg, hb⟩ := hrel
    by_cases hq : q = 0
    · subst hq
      have HG := Lib.hid ((gcdI_zero p0).symm.trans hg)
      clear hg
      go_wp2
      go_ret
      exact ⟨ret_int HG.out, hb⟩
    · have HG := Lib.hid ((gcdI_step p0 q0).trans hg)
      have m0 : 0 ≤ p % q := Int.emod_nonneg _ hq
      have m1 : p % q < q := Int.emod_lt_of_pos _ (by omega)
      have e0 : (q != 0) = true := by simp [hq]
      have e1 : (q == 0) = false := by simp [hq]
      have e2 : p.tmod q = p % q := Int.tmod_eq_emod_of_nonneg p0
      have e3 : IntKind.i64.wrap (p % q) = p % q := IntWalk.i64_in _ (by omega)
      clear hg
      go_wp2
      go_quiet (fail)
      clear e0 e1 e2 e3
      go_wp2
      go_roundw
      case rel => exact ⟨q, p % q, rfl, rfl, q0, q1, m0, by omega, HG.out, below_drewN hb _⟩
      case measure => simp [intOf]; omega
set_option maxHeartbeats 400000 in
theorem l13Gcd_any (a b : Int) (w : World) (a0 : 0 ≤ a) (a1 : a ≤ 1000000000000) (b0 : 0 ≤ b) (b1' : b ≤ 1000000000000) :
    Calls Try.prog 65 #[.int .i64 a, .int .i64 b] w fun e w' => e = .returned (.int .i64 (gcdI a b)) ∧ w = w' := by
  go_enter Try.func65, Try.ntmps65
  go_wp2
  go_loop [0, 1] (fun u v => ∃ p q : Int, u = .int .i64 p ∧ v = .int .i64 q ∧ 0 ≤ p ∧ p ≤ 1000000000000 ∧ 0 ≤ q ∧ q ≤ 1000000000000 ∧ gcdI p q = gcdI a b) (fun _ v => (intOf v).toNat)
  case atStart => exact ⟨a, b, rfl, rfl, a0, a1, b0, b1', rfl⟩
  case round =>
    obtain ⟨p, q, rfl, rfl, p0, p1, q0, q1, hg⟩ := hrel
    by_cases hq : q = 0
    · subst hq
      have HG := Lib.hid ((gcdI_zero p0).symm.trans hg)
      clear hg
      go_wp2
      go_ret
      exact ⟨ret_int HG.out, rfl⟩
    · have HG := Lib.hid ((gcdI_step p0 q0).trans hg)
      have m0 : 0 ≤ p % q := Int.emod_nonneg _ hq
      have m1 : p % q < q := Int.emod_lt_of_pos _ (by omega)
      have e0 : (q != 0) = true := by simp [hq]
      have e1 : (q == 0) = false := by simp [hq]
      have e2 : p.tmod q = p % q := Int.tmod_eq_emod_of_nonneg p0
      have e3 : IntKind.i64.wrap (p % q) = p % q := IntWalk.i64_in _ (by omega)
      clear hg
      go_wp2
      clear e0 e1 e2 e3
      go_round
      case rel => exact ⟨q, p % q, rfl, rfl, q0, q1, m0, by omega, HG.out⟩
      case measure => simp [intOf]; omega
end Go.Proofs.Ytpdekpeknnlfmaa
