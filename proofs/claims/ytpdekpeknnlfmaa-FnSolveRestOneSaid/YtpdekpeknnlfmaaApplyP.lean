/-
  Plain mathematics of applied and removed gains. No program is walked here.
-/
import Derived.Test.YtpdekpeknnlfmaaVisP
import Derived.Test.YtpdekpeknnlfmaaBases
namespace Go.Proofs.Ytpdekpeknnlfmaa
set_option linter.unusedVariables false

/-- the element at the place p, for the baseline x: applied, removed -/
def apE (ls gs : List (Int × Int)) (N p x : Nat) : Int × Int := (g1 ls p * g1 gs (b1 N x) * g1 gs (b2 N x), (g2 ls p + g2 gs (b2 N x) - g2 gs (b1 N x)) % 360)
def rmE (ls gs : List (Int × Int)) (N p x : Nat) : Int × Int := (g1 ls p / (g1 gs (b1 N x) * g1 gs (b2 N x)), (g2 ls p + g2 gs (b1 N x) - g2 gs (b2 N x)) % 360)
/-- what has come, place by place -/
def outL {N : Nat} (f : Nat → Nat → Int × Int) (pre : List (Bx N)) : List (Int × Int) := upto (fun p => f p ((pre.map (·.1)).getD p 0)) pre.length
@[simp] theorem outL_length {N : Nat} (f : Nat → Nat → Int × Int) (pre : List (Bx N)) : (outL f pre).length = pre.length := by simp [outL]
theorem outL_snoc {N : Nat} (f : Nat → Nat → Int × Int) (pre : List (Bx N)) (x : Bx N) : pairs (outL f (pre ++ [x])) = pairs (outL f pre) ++ [.int .i64 (f pre.length x.1).1, .int .i64 (f pre.length x.1).2] := by
  unfold outL
  rw [List.length_append, List.length_singleton, upto_succ]
  congr 1
  · congr 1
    refine upto_congr fun p hp => ?_
    simp [List.getElem?_append, hp]
  · simp
theorem outL_all {N : Nat} (f : Nat → Nat → Int × Int) {xs : List (Bx N)} (h : AllB xs) : outL f xs = upto (fun p => f p p) (nb N) := by
  unfold outL
  rw [h.2]
  refine upto_congr fun p hp => ?_
  have e : (xs.map (·.1)).getD p 0 = p := by
    rw [show xs.map (·.1) = List.range xs.length from h.1, h.2]
    simp [hp]
  rw [e]
theorem outL_none {N : Nat} (f : Nat → Nat → Int × Int) : outL f ([] : List (Bx N)) = [] := rfl

def gainApply (n : Int) (ls gs : List (Int × Int)) : List (Int × Int) × Bool :=
  if visB n ls && gainB n gs && visB n (upto (fun p => apE ls gs n.toNat p p) (nb n.toNat)) then (upto (fun p => apE ls gs n.toNat p p) (nb n.toNat), true) else ([], false)
/-- all amplitudes can be divided -/
def rmB (N : Nat) (ls gs : List (Int × Int)) : Bool := (List.range (nb N)).all fun p => g1 ls p % (g1 gs (b1 N p) * g1 gs (b2 N p)) == 0
def gainRemove (n : Int) (ls gs : List (Int × Int)) : List (Int × Int) × Bool :=
  if visB n ls && gainB n gs && rmB n.toNat ls gs then (upto (fun p => rmE ls gs n.toNat p p) (nb n.toNat), true) else ([], false)
theorem toNat_le {n : Int} (h : manyB n = true) : n.toNat ≤ 7 := by have := inB_true h; omega
theorem gainApply_len (n : Int) (ls gs : List (Int × Int)) : (gainApply n ls gs).1.length ≤ 1048592 := by
  unfold gainApply
  split
  · rename_i h
    simp only [Bool.and_eq_true] at h
    have := nb_le (toNat_le (visB_ok h.1.1).1)
    simp; omega
  · simp
theorem gainRemove_len (n : Int) (ls gs : List (Int × Int)) : (gainRemove n ls gs).1.length ≤ 1048592 := by
  unfold gainRemove
  split
  · rename_i h
    simp only [Bool.and_eq_true] at h
    have := nb_le (toNat_le (visB_ok h.1.1).1)
    simp; omega
  · simp
theorem apply_mk {N : Nat} {ls gs : List (Int × Int)} (h1 : visB (N : Int) ls = true) (h2 : gainB (N : Int) gs = true) (h3 : visB (N : Int) (upto (fun p => apE ls gs N p p) (nb N)) = true) : gainApply (N : Int) ls gs = (upto (fun p => apE ls gs N p p) (nb N), true) := by
  simp [gainApply, h1, h2, h3]
theorem apply_ok {N : Nat} {ls gs : List (Int × Int)} (h : (gainApply (N : Int) ls gs).2 = true) : visB (N : Int) ls = true ∧ gainB (N : Int) gs = true ∧ visB (N : Int) (upto (fun p => apE ls gs N p p) (nb N)) = true ∧ (gainApply (N : Int) ls gs).1 = upto (fun p => apE ls gs N p p) (nb N) := by
  unfold gainApply at h ⊢
  rw [Int.toNat_natCast] at h ⊢
  split at h
  · rename_i hc
    rw [if_pos hc]
    simp only [Bool.and_eq_true] at hc
    exact ⟨hc.1.1, hc.1.2, hc.2, rfl⟩
  · cases h
theorem remove_mk {N : Nat} {ls gs : List (Int × Int)} (h1 : visB (N : Int) ls = true) (h2 : gainB (N : Int) gs = true) (h3 : rmB N ls gs = true) : gainRemove (N : Int) ls gs = (upto (fun p => rmE ls gs N p p) (nb N), true) := by
  simp [gainRemove, h1, h2, h3]
theorem remove_ok {N : Nat} {ls gs : List (Int × Int)} (h : (gainRemove (N : Int) ls gs).2 = true) : visB (N : Int) ls = true ∧ gainB (N : Int) gs = true ∧ rmB N ls gs = true ∧ (gainRemove (N : Int) ls gs).1 = upto (fun p => rmE ls gs N p p) (nb N) := by
  unfold gainRemove at h ⊢
  rw [Int.toNat_natCast] at h ⊢
  split at h
  · rename_i hc
    rw [if_pos hc]
    simp only [Bool.and_eq_true] at hc
    exact ⟨hc.1.1, hc.1.2, hc.2, rfl⟩
  · cases h
theorem rmB_iff {N : Nat} {ls gs : List (Int × Int)} : rmB N ls gs = true ↔ ∀ p, p < nb N → g1 ls p % (g1 gs (b1 N p) * g1 gs (b2 N p)) = 0 := by
  simp [rmB]
theorem rmB_no {N : Nat} {ls gs : List (Int × Int)} {p : Nat} (hp : p < nb N) (h : g1 ls p % (g1 gs (b1 N p) * g1 gs (b2 N p)) ≠ 0) : rmB N ls gs = false := by
  cases hh : rmB N ls gs with
  | false => rfl
  | true => exact absurd (rmB_iff.1 hh p hp) h
end Go.Proofs.Ytpdekpeknnlfmaa
