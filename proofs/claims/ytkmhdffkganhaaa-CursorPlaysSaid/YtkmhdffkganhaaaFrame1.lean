/- What a call on a thing leaves as it was: all but the thing's own block. -/
import Derived.Test.YtkmhdffkganhaaaBase
namespace Go.Proofs.Ytkmhdffkganhaaa
open Go.RowKit

structure Frame1 (b : Nat) (w w' : World) : Prop where
  os : w'.os = w.os
  tape : w'.tape = w.tape
  output : w'.output = w.output
  size : w.heap.size ≤ w'.heap.size
  block : ∀ k, k < w.heap.size → k ≠ b → w'.heap[k]? = w.heap[k]?
theorem Frame1.refl (b : Nat) (w : World) : Frame1 b w w := ⟨rfl, rfl, rfl, Nat.le_refl _, fun _ _ _ => rfl⟩
theorem Frame1.trans {b : Nat} {x y z : World} (h : Frame1 b x y) (k : Frame1 b y z) : Frame1 b x z :=
  ⟨k.os.trans h.os, k.tape.trans h.tape, k.output.trans h.output, Nat.le_trans h.size k.size, fun i hi h1 => (k.block i (Nat.lt_of_lt_of_le hi h.size) h1).trans (h.block i hi h1)⟩
theorem Frame1.of_below {b : Nat} {w w' : World} (h : Below w.heap.size w w') : Frame1 b w w' := ⟨h.os, h.tape, h.output, h.size, fun k hk _ => h.block k hk⟩
theorem Frame1.below {b B : Nat} {w w' : World} (h : Frame1 b w w') (hB : B ≤ w.heap.size) (h1 : B ≤ b) : Below B w w' := ⟨h.os, h.tape, h.output, h.size, fun k hk => h.block k (by omega) (by omega)⟩
theorem Frame1.setCell {b : Nat} (w : World) (o : Nat) (v : Value) : Frame1 b w (w.setCell ⟨b, o, none⟩ v) := ⟨rfl, rfl, rfl, by simp [World.setCell], fun _ _ hk => Below.heap_setCell _ _ _ _ hk⟩
theorem Frame1.mono_below {b B : Nat} {w w1 w2 : World} (h : Below B w w1) (hB : w.heap.size ≤ B) (k : Frame1 b w1 w2) : Frame1 b w w2 :=
  (Frame1.of_below (h.mono hB)).trans k
theorem ownsRow_of_heap {w w' : World} {base : Nat} {e : TypeId} {size n : Nat} {v : Value} {xs : List Value} (h : w.ownsRow base e size v n xs) (hk : ∀ g, v.ownBlock = some g → w'.heap[g]? = w.heap[g]?) : w'.ownsRow base e size v n xs := by
  obtain ⟨h1, h2 | ⟨g, cap, cur, hv, hg, hh, r⟩⟩ := h
  · exact ⟨h1, .inl h2⟩
  · exact ⟨h1, .inr ⟨g, cap, cur, hv, hg, by rw [hk g (by rw [hv]; rfl)]; exact hh, r⟩⟩
theorem ownsRow_block {w : World} {base : Nat} {e : TypeId} {size n : Nat} {v : Value} {xs : List Value} (h : w.ownsRow base e size v n xs) : ∀ g, v.ownBlock = some g → base ≤ g ∧ ∃ cur, w.heap[g]? = some (.cells cur e (0, 0)) := by
  obtain ⟨h1, ⟨hv, _⟩ | ⟨g, cap, cur, hv, hg, hh, r⟩⟩ := h
  · intro k hk; rw [hv] at hk; cases hk
  · intro k hk; rw [hv] at hk; cases hk; exact ⟨hg, cur, hh⟩
end Go.Proofs.Ytkmhdffkganhaaa
