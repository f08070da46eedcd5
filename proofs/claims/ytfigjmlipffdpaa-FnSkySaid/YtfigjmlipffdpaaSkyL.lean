/-
  The laws' own helper 'spot'.
-/
import Derived.Test.YtfigjmlipffdpaaSkyA
import Derived.Test.YtfigjmlipffdpaaSkyQ
namespace Go.Proofs.Ytfigjmlipffdpaa
set_option linter.unusedVariables false
open Go.RowKit

theorem spot_facts {w w0 : World} {k : Nat} (h : w0.ownsRow w.heap.size 3 1 (.slice (some ⟨w.heap.size, 0, none⟩) 16 16) 16 (madeCells (Value.int .i64 0).cells (16 * 1)).toList) (hk : k < 16) :
    (∃ u, w0.cell? ⟨w.heap.size, k, none⟩ = some u) ∧ w0.frozen? ⟨w.heap.size, k, none⟩ = false ∧ ∀ z : Int, Ow (w0.setCell ⟨w.heap.size, k, none⟩ (.int .i64 z)) 3 w.heap.size w0.heap.size (some ⟨w.heap.size, 0, none⟩) (ints (spotL k z)) := by
  have e : (madeCells (Value.int .i64 0).cells (16 * 1)).toList = ints (List.replicate 16 0) := by kernel_rfl
  rw [e] at h
  obtain ⟨g, off, e2, _, _, _, hc, hf, hs⟩ := (Ow.of_own h).cell_at (k := k) (by simpa using hk)
  injection e2 with e2
  injection e2 with e3 e4
  subst e3 e4
  rw [ints_get (by simpa using hk)] at hc
  simp only [Nat.zero_add] at hc hf hs
  exact ⟨⟨_, hc⟩, hf, fun z => by have := hs (.int .i64 z); rw [ints_set] at this; exact this⟩

theorem shf_len {s : List Int} {a b : Int} (h : (skyShift s a b).2 = true) : (skyShift s a b).1.length = 16 := by
  rw [(shift_ok h).2.2.2]; simp
theorem shf_at {s : List Int} {p k : Nat} (hp : p < 16) (hk : k < 16) : gi (shf s p) (plus k p) = gi s k := by
  rw [gi_shf _ _ _ (plus_lt _ _), plus_opp hk]
theorem quiet_cel {X Y : Int} {q : Nat} (h : cel X Y = q) : ∀ (w : World) {n : Nat}, Calls Try.prog 40 #[.int .i64 X, .int .i64 Y] (w.drewN n) fun e w'' => e = .returned (.int .i64 (q : Int)) ∧ ∃ m, w'' = w.drewN m :=
  fun w n => (lawCellAt_any X Y (w.drewN n)).mono fun _ _ ⟨he, hw⟩ => ⟨by rw [he, h], n, hw.symm⟩
set_option maxHeartbeats 400000 in
theorem spot_any (k n : Int) (w : World) (h0 : 0 ≤ k) (h1 : k < 16) :
    Calls Try.prog 34 #[.int .i64 k, .int .i64 n] w fun e w' => ∃ A, e = .returned (.slice A 16 16) ∧ Ow w' 3 w.heap.size w'.heap.size A (ints (spotL k.toNat n)) ∧ Below w.heap.size w w' := by
  obtain ⟨k, rfl⟩ := Int.eq_ofNat_of_zero_le h0
  rw [Int.toNat_natCast]
  have hk : k < 16 := by omega
  obtain ⟨i0, hi, hz0, hz1, hz2⟩ := info_parts info_int
  go_enter Try.func34, Try.ntmps34
  go_wp2_with (at_make; refine wpList_make_full _ rfl _ _ 22 rfl w.heap.size 3 i0 (.int .i64 0) 1 Try.underlying22 hi hz0 hz1 .i64 .i64 _ _ 16 rfl rfl rfl rfl (by rw [hz2]; omega) (by simp [maxLen]) (Nat.le_refl _) ?_; intro w0 hown0 hgrow0; obtain ⟨⟨u, hc⟩, hf, hs⟩ := spot_facts hown0 hk; have HS := Lib.hid hs; have HG := Lib.hid hgrow0; clear hs hown0 hgrow0)
  go_ret
  refine ⟨_, rfl, ?_, ?_⟩
  · have := HS.out n
    exact this.mono (Nat.le_refl _) (by simp [World.setCell])
  · exact ((Below.refl w.heap.size w).grown HG.out (Nat.le_refl _) (fun k hk => by cases hk)).setCell (Nat.le_refl _) _
end Go.Proofs.Ytfigjmlipffdpaa
