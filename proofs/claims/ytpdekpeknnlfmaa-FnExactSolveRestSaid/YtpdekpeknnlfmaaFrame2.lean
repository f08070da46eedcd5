/-
  Slices of structs of two integers, and of bools, that came in.
-/
import Derived.Test.YtpdekpeknnlfmaaFrame
import Derived.Test.YtpdekpeknnlfmaaPair
namespace Go.Proofs.Ytpdekpeknnlfmaa
set_option linter.unusedVariables false
open Go.ChangeShapes Go.WideShapes Go.ChangeAt Go.RowKit Go.Deep

section
variable {H : Type} {enc : TypeId × Value → H} {P : Program} {w : World} {base : Nat} {held : Bool}

theorem pairs_of (f : Nat → Int × Int) (n : Nat) : pairs ((List.range n).map f) = (List.range n).flatMap fun i => [.int .i64 (f i).1, .int .i64 (f i).2] := by
  simp [pairs, List.flatMap_map]
theorem g1_range (f : Nat → Int × Int) (n i : Nat) (h : i < n) : g1 ((List.range n).map f) i = (f i).1 := by simp [g1, h]
theorem g2_range (f : Nat → Int × Int) (n i : Nat) (h : i < n) : g2 ((List.range n).map f) i = (f i).2 := by simp [g2, h]

theorem Rd.of_pairs {b off n : Nat} {f : Nat → Int × Int} (h : ∀ i, i < n → w.cell? ⟨b, off + i * 2, none⟩ = some (.int .i64 (f i).1) ∧ w.cell? ⟨b, off + i * 2 + 1, none⟩ = some (.int .i64 (f i).2)) : Rd w (some ⟨b, off, none⟩) (pairs ((List.range n).map f)) := by
  intro _
  refine ⟨b, off, rfl, fun i hi => ?_⟩
  rw [pairs_length] at hi
  simp only [List.length_map, List.length_range] at hi
  have hk : i / 2 < ((List.range n).map f).length := by simp; omega
  rcases (show i = i / 2 * 2 ∨ i = i / 2 * 2 + 1 by omega) with e | e
  · have a1 := pairs_get1 hk
    rw [← e, g1_range _ _ _ (by omega)] at a1
    rw [a1, e]
    have := (h (i / 2) (by omega)).1
    rw [show i / 2 * 2 / 2 = i / 2 by omega]
    exact this
  · have a1 := pairs_get2 hk
    rw [← e, g2_range _ _ _ (by omega)] at a1
    rw [a1, e, ← Nat.add_assoc]
    have := (h (i / 2) (by omega)).2
    rw [show (i / 2 * 2 + 1) / 2 = i / 2 by omega]
    exact this

/-- A slice of structs of two integers that came in reads as a list of pairs. -/
theorem in_pairs {t e it : TypeId} {f0 f1 : Field} {a : Option Addr} {len cap : Nat} {d : DataW H} {p : List MemPlace} (ht : P.underlying t = some (.slice e)) (he : P.underlying e = some (.struct #[f0, f1])) (hi : P.underlying it = some (.int .i64))
    (hf : f0.type = it ∧ f1.type = it ∧ f0.offset = 0 ∧ f1.offset = 1) (hC : P.cellsOf e = 2) (hI : P.cellsOf it = 1)
    (h : DataW.Trod enc P w base (fun _ => true) held t (.slice a len cap) d p) : ∃ ps : List (Int × Int), ps.length = len ∧ Rd w a (pairs ps) ∧ len ≤ cap ∧ cap ≤ maxLen := by
  obtain ⟨fuel, hfu⟩ := h
  rcases open_slice ht hfu with ⟨hcs, _⟩ | ⟨x, l, c, m, n, D, Pl, hcs, _, hl, hm, hmm, _, hel⟩
  · simp [Value.cells] at hcs
    obtain ⟨rfl, rfl, rfl⟩ := hcs
    exact ⟨[], rfl, Rd.none_, by omega, by simp [maxLen]⟩
  · simp [Value.cells] at hcs
    obtain ⟨rfl, rfl, rfl⟩ := hcs
    have hm' : m = cap := by simpa using hmm
    subst hm'
    have each : ∀ i, i < m → ∃ u v : Int, w.cell? ((x.add (i * 2)).add 0) = some (.int .i64 u) ∧ w.cell? ((x.add (i * 2)).add 1) = some (.int .i64 v) := by
      intro i him
      obtain ⟨cs', hc, ht'⟩ := hel i him
      rw [hC] at hc
      obtain ⟨ys, n', _, _, _, _, hff⟩ := DataW.trod_struct he ht'
      obtain ⟨_, hcl, hat⟩ := World.cells?_some hc
      have a0 := hff 0 f0 rfl
      have a1 := hff 1 f1 rfl
      rw [hf.1, hf.2.2.1, hI] at a0
      rw [hf.2.1, hf.2.2.2, hI] at a1
      match cs', hcl with
      | [c0, c1], _ =>
        have k0 := hat 0 (by omega)
        have k1 := hat 1 (by omega)
        simp at k0 k1
        have hy : ys.length = 2 := by assumption
        match ys, hy with
        | [y0, y1], _ =>
          simp at a0 a1
          obtain ⟨u, e0, _⟩ := DataW.trod_int hi a0
          obtain ⟨v, e1, _⟩ := DataW.trod_int hi a1
          simp at e0 e1
          subst e0 e1
          exact ⟨u, v, k0, k1⟩
    obtain ⟨b, off, spot⟩ := x
    by_cases h0 : len = 0
    · subst h0
      exact ⟨[], rfl, Rd.none_, hl, hm⟩
    · have hs : spot = none := by
        obtain ⟨u, v, hu, _⟩ := each 0 (by omega)
        simpa [Addr.add] using World.cell?_spot hu
      subst hs
      have each' : ∀ i, i < m → ∃ q : Int × Int, w.cell? ⟨b, off + i * 2, none⟩ = some (.int .i64 q.1) ∧ w.cell? ⟨b, off + i * 2 + 1, none⟩ = some (.int .i64 q.2) := by
        intro i him
        obtain ⟨u, v, hu, hv⟩ := each i him
        rw [add_plain, add_plain] at hu hv
        exact ⟨(u, v), hu, hv⟩
      refine ⟨(List.range len).map fun i => if hi : i < m then Classical.choose (each' i hi) else (0, 0), by simp, Rd.of_pairs fun i hil => ?_, hl, hm⟩
      have him : i < m := by omega
      rw [dif_pos him]
      exact Classical.choose_spec (each' i him)
end
end Go.Proofs.Ytpdekpeknnlfmaa
