/-
  What the frames of the laws' proofs share: the arguments opened into the words of Mem.
-/
import Derived.Test.YtopneihamefohaaRows
import Derived.Test.YtopneihamefohaaMem
import Derived.ProofKit
import Derived.OpenShut
import Derived.ShutString
import Derived.ChangeOld
import Derived.Below
import Derived.Deep.Slices
import Derived.Deep.Fields
namespace Go.Proofs.Ytopneihamefohaa
set_option linter.unusedVariables false
open Go.ChangeShapes Go.WideShapes Go.ChangeAt Go.RowKit Go.Deep

theorem own : ownKnob Try.prog.godebug = none := by kernel_rfl
theorem laidOut : laidOutB Try.prog = true := by kernel_rfl

section
variable {H : Type} {enc : TypeId × Value → H} {P : Program} {w : World} {base : Nat} {spare : Nat → Bool} {held : Bool}

theorem add_plain (b off i : Nat) : (⟨b, off, none⟩ : Addr).add i = ⟨b, off + i, none⟩ := by unfold Addr.add; split <;> simp_all

/-- A slice of integers that came in reads as a list. -/
theorem in_ints {t e : TypeId} {k : IntKind} {a : Option Addr} {len cap : Nat} {d : DataW H} {p : List MemPlace} (ht : P.underlying t = some (.slice e)) (he : P.underlying e = some (.int k)) (hc : P.cellsOf e = 1)
    (h : DataW.Trod enc P w base (fun _ => true) held t (.slice a len cap) d p) : ∃ zs : List Int, zs.length = len ∧ Rd w a (zs.map (Value.int k)) ∧ (∀ z ∈ zs, (Lit.int k z).wf = true) ∧ len ≤ cap := by
  obtain ⟨fuel, hf⟩ := h
  rcases open_ints ht he hc hf with ⟨hcs, _⟩ | ⟨x, l, c, zs, hcs, _, hl, hm, hz, _, hcell, hwz⟩
  · simp [Value.cells] at hcs
    obtain ⟨rfl, rfl, rfl⟩ := hcs
    exact ⟨[], rfl, Rd.none_, by simp, by omega⟩
  · simp [Value.cells] at hcs
    obtain ⟨rfl, rfl, rfl⟩ := hcs
    have hz' : zs.length = cap := by simpa using hz
    refine ⟨zs.take len, by simp; omega, fun h0 => ?_, fun z hz2 => hwz z (List.mem_of_mem_take hz2), hl⟩
    simp only [List.length_map, List.length_take] at h0
    obtain ⟨b, off, spot⟩ := x
    have hs : spot = none := by simpa [Addr.add] using World.cell?_spot (hcell 0 (by omega))
    subst hs
    refine ⟨b, off, rfl, fun i hi => ?_⟩
    simp only [List.length_map, List.length_take] at hi
    have := hcell i (by omega)
    rw [add_plain] at this
    rw [this]
    simp [show i < len by omega, show i < zs.length by omega]

theorem Rd.bytes {A : Option Addr} {zs : List Int} {n : Nat} (h : Rd w A (zs.map (Value.int .u8))) (hn : zs.length = n) (hw : ∀ z ∈ zs, (Lit.int .u8 z).wf = true) : Bytes w A n w.heap.size := by
  intro h0
  obtain ⟨b, off, e, hc⟩ := h (by simp; omega)
  have hcell : ∀ i, (hi : i < n) → w.cell? ⟨b, off + i, none⟩ = some (.int .u8 (zs[i]'(by omega))) := fun i hi => by
    rw [hc i (by simp; omega)]
    simp [show i < zs.length by omega]
  refine ⟨b, off, e, World.block_lt_of_cell? w _ (hcell 0 h0), fun i hi => ⟨_, ?_, ?_, hcell i hi⟩⟩
  · have := bounds_u8 (hw _ (List.getElem_mem (show i < zs.length by omega)))
    omega
  · have := bounds_u8 (hw _ (List.getElem_mem (show i < zs.length by omega)))
    omega

end
end Go.Proofs.Ytopneihamefohaa
