/-
  Plain laws of folds: in any order, with a shift, with a single number, of sums. No program is walked here.
-/
import Derived.Test.YthlhojbbecioaaaSkyQ
namespace Go.Proofs.Ythlhojbbecioaaa
set_option linter.unusedVariables false

theorem fold_three {a b c : List Int} (h : (skyFold a b).2 = true) (hp : (skyFold (skyFold a b).1 c).2 = true) (hq : (skyFold b c).2 = true) (hs : (skyFold a (skyFold b c).1).2 = true) :
    (skyFold (skyFold a b).1 c).1 = (skyFold a (skyFold b c).1).1 := by
  rw [(fold_ok hp).2.2.2, (fold_ok hs).2.2.2, (fold_ok h).2.2.2, (fold_ok hq).2.2.2, fol_assoc]
theorem fold_shift {a b : List Int} {c d : Int} (h : (skyFold a b).2 = true) (c0 : 0 ≤ c) (c1 : c < 4) (d0 : 0 ≤ d) (d1 : d < 4) :
    (skyShift a c d).2 = true ∧ (skyFold (skyShift a c d).1 b).2 = true ∧ (skyShift (skyFold a b).1 c d).2 = true ∧ (skyFold (skyShift a c d).1 b).1 = (skyShift (skyFold a b).1 c d).1 := by
  obtain ⟨ha, hb, hv, e⟩ := fold_ok h
  have hc := side_of c0 c1
  have hd := side_of d0 d1
  have e2 := fol_shf (a := a) (b := b) (pl_lt hc hd)
  have e3 := shift_mk ha hc hd
  have e4 := shift_mk hv hc hd
  rw [e3, e, e4]
  have e5 : skyFold (shf a (pl c d)) b = (fol (shf a (pl c d)) b, true) := fold_mk (skyB_shf ha _) hb (by rw [e2]; exact skyB_shf hv _)
  show true = true ∧ (skyFold (shf a (pl c d)) b).2 = true ∧ true = true ∧ (skyFold (shf a (pl c d)) b).1 = shf (fol a b) (pl c d)
  rw [e5]
  exact ⟨rfl, rfl, rfl, e2⟩
theorem side_mod (k : Nat) : sideB ((k : Int) % 4) = true := inB_mk (by omega)
theorem side_div {k : Nat} (h : k < 16) : sideB ((k : Int) / 4) = true := inB_mk (by omega)
theorem fold_spot {a b : List Int} {k : Nat} (h : (skyFold a b).2 = true) (hk : k < 16) :
    (skyFold a (spotL k 1)).2 = true ∧ (skyShift a ((k : Int) % 4) ((k : Int) / 4)).2 = true ∧ (skyFold a (spotL k 1)).1 = (skyShift a ((k : Int) % 4) ((k : Int) / 4)).1 := by
  obtain ⟨ha, hb, hv, e⟩ := fold_ok h
  have e1 := fol_spot (skyB_len ha) hk
  rw [shift_mk ha (side_mod k) (side_div hk), pl_self k hk, fold_mk ha (skyB_spot hk (by omega)) (by rw [e1]; exact skyB_shf ha _)]
  exact ⟨rfl, rfl, e1⟩
theorem fold_shifts {a b : List Int} {k : Nat} (h : (skyFold a b).2 = true) (hk : k < 16) : (skyShift a ((k : Int) % 4) ((k : Int) / 4)).2 = true := (fold_spot h hk).2.1
theorem fold_sum {a b : List Int} {k : Nat} (h : (skyFold a b).2 = true) (hk : k < 16) (hp : (skyAdd b (spotL k 1) 1).2 = true) (hq : (skyFold a (skyAdd b (spotL k 1) 1).1).2 = true) :
    (skyAdd (skyFold a b).1 (skyShift a ((k : Int) % 4) ((k : Int) / 4)).1 1).2 = true ∧ (skyFold a (skyAdd b (spotL k 1) 1).1).1 = (skyAdd (skyFold a b).1 (skyShift a ((k : Int) % 4) ((k : Int) / 4)).1 1).1 := by
  obtain ⟨ha, hb, hv, e⟩ := fold_ok h
  obtain ⟨_, _, hx, e2⟩ := fold_ok hq
  obtain ⟨_, _, _, _, e3⟩ := add_ok hp
  have e4 : fol a (addT b (spotL k 1) 1) = addT (fol a b) (shf a k) 1 := by rw [fol_add (skyB_len hb), fol_spot (skyB_len ha) hk]
  rw [e3, e4] at hx
  rw [e2, e3, e4, e, shift_mk ha (side_mod k) (side_div hk), pl_self k hk]
  show (skyAdd (fol a b) (shf a k) 1).2 = true ∧ addT (fol a b) (shf a k) 1 = (skyAdd (fol a b) (shf a k) 1).1
  rw [add_mk hv (skyB_shf ha _) (inB_mk (by omega)) hx]
  exact ⟨rfl, rfl⟩
end Go.Proofs.Ythlhojbbecioaaa
