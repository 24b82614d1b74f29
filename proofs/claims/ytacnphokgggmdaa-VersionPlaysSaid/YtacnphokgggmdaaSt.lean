/- A store of versions as plain data; no program in sight. -/
import Derived.Test.YtacnphokgggmdaaMapI
namespace Go.Proofs.Ytacnphokgggmdaa
open Go.RowKit

/-- the head, what is kept (value, pins), how many -/
structure St where
  head : Int
  g : Int → Option (Value × Int)
  n : Nat
namespace St
def pins (s : St) (k : Int) : Int := ((s.g k).map (·.2)).getD 0
def val (z : Value) (s : St) (k : Int) : Value := ((s.g k).map (·.1)).getD z
def put (s : St) (k : Int) (p : Value × Int) : St := { s with g := fun j => if j = k then some p else s.g j, n := if (s.g k).isSome then s.n else s.n + 1 }
def drop (s : St) (k : Int) : St := { s with g := fun j => if j = k then none else s.g j, n := if (s.g k).isSome then s.n - 1 else s.n }
def tidy (s : St) (k : Int) : St := if k ≠ s.head ∧ s.pins k = 0 then s.drop k else s
def commit (s : St) (x : Value) : St := (({ s with head := s.head + 1 } : St).put (s.head + 1) (x, 0)).tidy s.head
def pin (z : Value) (s : St) : St := s.put s.head (s.val z s.head, s.pins s.head + 1)
def release (z : Value) (s : St) (k : Int) : St := if s.pins k = 0 then s else (s.put k (s.val z k, s.pins k - 1)).tidy k
end St
def kept (p : Value × Int) : Value := .agg #[p.1, .int .i64 p.2]
def St.f (s : St) : Int → Option Value := fun k => (s.g k).map kept

/-- what a call on a store leaves as it was: all but the store's own two blocks -/
structure Frame2 (b mb : Nat) (w w' : World) : Prop where
  os : w'.os = w.os
  tape : w'.tape = w.tape
  output : w'.output = w.output
  size : w.heap.size ≤ w'.heap.size
  block : ∀ k, k < w.heap.size → k ≠ b → k ≠ mb → w'.heap[k]? = w.heap[k]?
theorem Frame2.refl (b mb : Nat) (w : World) : Frame2 b mb w w := ⟨rfl, rfl, rfl, Nat.le_refl _, fun _ _ _ _ => rfl⟩
theorem Frame2.trans {b mb : Nat} {x y z : World} (h : Frame2 b mb x y) (k : Frame2 b mb y z) : Frame2 b mb x z :=
  ⟨k.os.trans h.os, k.tape.trans h.tape, k.output.trans h.output, Nat.le_trans h.size k.size, fun i hi h1 h2 => (k.block i (Nat.lt_of_lt_of_le hi h.size) h1 h2).trans (h.block i hi h1 h2)⟩
theorem Frame2.of_below {b mb : Nat} {w w' : World} (h : Below w.heap.size w w') : Frame2 b mb w w' := ⟨h.os, h.tape, h.output, h.size, fun k hk _ _ => h.block k hk⟩
theorem Frame2.below {b mb B : Nat} {w w' : World} (h : Frame2 b mb w w') (hB : B ≤ w.heap.size) (h1 : B ≤ b) (h2 : B ≤ mb) : Below B w w' := ⟨h.os, h.tape, h.output, h.size, fun k hk => h.block k (by omega) (by omega) (by omega)⟩
theorem Frame2.map {b mb : Nat} {w w' : World} (h : OnlyMap w mb w') : Frame2 b mb w w' := ⟨h.os, h.tape, h.output, by rw [h.size]; exact Nat.le_refl _, fun k _ _ hk => h.block k hk⟩
theorem Frame2.setCell {b mb : Nat} (w : World) (o : Nat) (v : Value) : Frame2 b mb w (w.setCell ⟨b, o, none⟩ v) := ⟨rfl, rfl, rfl, by simp [World.setCell], fun k _ hk _ => Below.heap_setCell _ _ _ _ hk⟩

theorem St.f_put (s : St) (k : Int) (p : Value × Int) : ∀ j, (s.put k p).f j = upd s.f k (kept p) j := by
  intro j; simp only [St.f, St.put, upd]; split <;> rfl
theorem St.f_drop (s : St) (k : Int) : ∀ j, (s.drop k).f j = del s.f k j := by
  intro j; simp only [St.f, St.drop, del]; split <;> rfl
theorem St.f_some (s : St) (k : Int) : (s.f k).isSome = (s.g k).isSome := by simp [St.f]
end Go.Proofs.Ytacnphokgggmdaa
