/- Bytes that wait, as plain data, and the memory of a queue; no program in sight. -/
import Derived.Test.YtfcfckcpmjccoaaMid2
import Derived.Lib.Bytealg
import Derived.Lib.Bytes
namespace Go.Proofs.Ytfcfckcpmjccoaa
open Go.RowKit

/-- where the first line's end is -/
def nlAt : List Int → Option Nat
  | [] => none
  | x :: r => if x = 10 then some 0 else (nlAt r).map (· + 1)
def nlI (xs : List Int) : Int := match nlAt xs with | some i => i | none => -1
theorem nlAt_lt : ∀ (xs : List Int) (i : Nat), nlAt xs = some i → i < xs.length
  | [], i, h => by cases h
  | x :: r, i, h => by
    unfold nlAt at h
    split at h
    · cases h; simp
    · cases hr : nlAt r with
      | none => rw [hr] at h; cases h
      | some j => rw [hr] at h; cases h; have := nlAt_lt r j hr; simp; omega
theorem indexByte_eq : ∀ (xs : List Int), (∀ x ∈ xs, 0 ≤ x ∧ x ≤ 255) → Lib.indexByte (Lib.bytesOf xs) 10 = nlI xs
  | [], _ => rfl
  | x :: r, h => by
    have hx := h x (.head _)
    have ih := indexByte_eq r (fun y hy => h y (.tail _ hy))
    show (if (UInt8.ofNat x.toNat == 10) = true then (0 : Int) else if (Lib.indexByte (Lib.bytesOf r) 10 == -1) = true then -1 else Lib.indexByte (Lib.bytesOf r) 10 + 1) = nlI (x :: r)
    rw [ih]
    by_cases hx10 : x = 10
    · subst hx10; rfl
    · have hne : (UInt8.ofNat x.toNat == 10) = false := by
        rw [beq_eq_false_iff_ne]
        intro e
        have := congrArg UInt8.toNat e
        simp at this
        omega
      have hn : nlAt (x :: r) = (nlAt r).map (· + 1) := by show (if x = 10 then _ else _) = _; rw [if_neg hx10]
      unfold nlI
      rw [hne, hn]
      cases hr : nlAt r with
      | none => rfl
      | some i =>
        have h1 : (((i : Int)) == -1) = false := by rw [beq_eq_false_iff_ne]; omega
        simp [h1]

/-- 's[k:]' of a row. -/
theorem OwnMid.drop {w : World} {base : Nat} {e : TypeId} {n g off cap : Nat} {xs : List Value} (h : OwnMid w base e (.slice (some ⟨g, off, none⟩) n cap) n xs) (k : Nat) (hk : k ≤ n) :
    OwnMid w base e (.slice (some ⟨g, if cap = k then off else off + k, none⟩) (n - k) (cap - k)) (n - k) (xs.drop k) := by
  obtain ⟨h1, ⟨hv, _⟩ | ⟨g', off', cap', cur, hv, hg, hh, hn, hm, hs, hc⟩⟩ := h
  · cases hv
  · cases hv
    refine ⟨by simp [h1], .inr ⟨g, _, cap - k, cur, rfl, hg, hh, by omega, by omega, by split <;> omega, fun j u hu => ?_⟩⟩
    rw [List.getElem?_drop] at hu
    have hlen : k + j < xs.length := (List.getElem?_eq_some_iff.1 hu).1
    rw [if_neg (by omega), show off + k + j = off + (k + j) by omega]
    exact hc _ _ hu
theorem OwnMid.cell {w : World} {base : Nat} {e : TypeId} {n g off cap : Nat} {xs : List Value} (h : OwnMid w base e (.slice (some ⟨g, off, none⟩) n cap) n xs) :
    ∀ j u, xs[j]? = some u → w.cell? ⟨g, off + j, none⟩ = some u := by
  intro j u hu
  obtain ⟨h1, ⟨hv, _⟩ | ⟨g', off', cap', cur, hv, hg, hh, hn, hm, hs, hc⟩⟩ := h
  · cases hv
  · cases hv
    exact cellOf hh _ (hc j u hu)
theorem OwnMid.cap {w : World} {base : Nat} {e : TypeId} {n g off cap : Nat} {xs : List Value} (h : OwnMid w base e (.slice (some ⟨g, off, none⟩) n cap) n xs) : n ≤ cap ∧ cap ≤ maxLen := by
  obtain ⟨h1, ⟨hv, _⟩ | ⟨g', off', cap', cur, hv, hg, hh, hn, hm, hs, hc⟩⟩ := h
  · cases hv
  · cases hv; exact ⟨hn, hm⟩

/-- what a call on a queue leaves as it was: all but the queue's own block -/
structure Frame1 (b : Nat) (w w' : World) : Prop where
  os : w'.os = w.os
  tape : w'.tape = w.tape
  output : w'.output = w.output
  size : w.heap.size ≤ w'.heap.size
  block : ∀ k, k < w.heap.size → k ≠ b → w'.heap[k]? = w.heap[k]?
theorem Frame1.refl (b : Nat) (w : World) : Frame1 b w w := ⟨rfl, rfl, rfl, Nat.le_refl _, fun _ _ _ => rfl⟩
theorem Frame1.trans {b : Nat} {x y z : World} (h : Frame1 b x y) (k : Frame1 b y z) : Frame1 b x z :=
  ⟨k.os.trans h.os, k.tape.trans h.tape, k.output.trans h.output, Nat.le_trans h.size k.size, fun i hi h1 => (k.block i (Nat.lt_of_lt_of_le hi h.size) h1).trans (h.block i hi h1)⟩
theorem Frame1.of_below {b : Nat} {w w' : World} (h : Below w.heap.size w w') : Frame1 b w w' := ⟨h.os, h.tape, h.output, h.size, fun k hk _ => h.block k hk⟩
theorem Frame1.below {b B : Nat} {w w' : World} (h : Frame1 b w w') (hB : B ≤ w.heap.size) (h1 : B ≤ b) : Below B w w' := ⟨h.os, h.tape, h.output, h.size, fun k hk => h.block k (by omega) (by omega)⟩
theorem Frame1.setCell {b : Nat} (w : World) (o : Nat) (v : Value) : Frame1 b w (w.setCell ⟨b, o, none⟩ v) := ⟨rfl, rfl, rfl, by simp [World.setCell], fun _ _ hk => Below.heap_setCell _ _ _ _ hk⟩
theorem Frame1.mono_below {b B : Nat} {w w1 w2 : World} (h : Below B w w1) (hB : w.heap.size ≤ B) (k : Frame1 b w1 w2) : Frame1 b w w2 :=
  (Frame1.of_below (h.mono hB)).trans k

/-- Block b, of type t (5 is no such), is a queue of the bytes xs. -/
structure QIs (w : World) (t : TypeId) (base b : Nat) (v : Value) (xs : List Int) (most : Nat) (skip : Bool) : Prop where
  blk : w.heap[b]? = some (.cells #[v, .int .i64 most, .bool skip] t (0, 0))
  own : OwnMid w base 5 v xs.length (xs.map (Value.int .u8))
  hb : base ≤ b
  rng : ∀ x ∈ xs, 0 ≤ x ∧ x ≤ 255
  len : xs.length ≤ most
  max : most ≤ 65536
  ne5 : t ≠ 5
theorem QIs.of_heap {w w' : World} {t : TypeId} {base b : Nat} {v : Value} {xs : List Int} {most : Nat} {skip : Bool} (h : QIs w t base b v xs most skip)
    (hk : ∀ (k : Nat) (c : Array Value) (e : TypeId), w.heap[k]? = some (Obj.cells c e (0, 0)) → (k = b ∨ e = 5) → w'.heap[k]? = w.heap[k]?) : QIs w' t base b v xs most skip :=
  ⟨by rw [hk b _ _ h.blk (.inl rfl)]; exact h.blk, h.own.of_heap fun g hg => by obtain ⟨_, c, hc⟩ := h.own.block g hg; exact hk g c 5 hc (.inr rfl), h.hb, h.rng, h.len, h.max, h.ne5⟩
theorem QIs.below {w w' : World} {B : Nat} {t : TypeId} {base b : Nat} {v : Value} {xs : List Int} {most : Nat} {skip : Bool} (h : QIs w t base b v xs most skip) (hb : Below B w w') (hB : w.heap.size ≤ B) : QIs w' t base b v xs most skip :=
  h.of_heap fun k _ _ hk _ => hb.block k (Nat.lt_of_lt_of_le (ltOf hk) hB)
theorem QIs.drew {w : World} {t : TypeId} {base b : Nat} {v : Value} {xs : List Int} {most : Nat} {skip : Bool} (h : QIs w t base b v xs most skip) : QIs w.drew t base b v xs most skip := h.below (Below.refl _ _).drew (Nat.le_refl _)
/-- another queue's call leaves this one as it was -/
theorem QIs.other {w w' : World} {t t' : TypeId} {base base' b b' : Nat} {v v' : Value} {xs xs' : List Int} {most most' : Nat} {skip skip' : Bool} (h : QIs w t base b v xs most skip) (h' : QIs w t' base' b' v' xs' most' skip')
    (ht : t ≠ t') (F : Frame1 b' w w') : QIs w' t base b v xs most skip :=
  h.of_heap fun k c e hk he => F.block k (ltOf hk) (by
    rintro rfl
    rw [h'.blk] at hk
    cases hk
    rcases he with rfl | rfl
    · have := h.blk; rw [h'.blk] at this; cases this; exact ht rfl
    · exact h'.ne5 rfl)
theorem QIs.weaken {w : World} {t : TypeId} {base base' b : Nat} {v : Value} {xs : List Int} {most : Nat} {skip : Bool} (h : QIs w t base b v xs most skip) (hb : base' ≤ base) : QIs w t base' b v xs most skip :=
  ⟨h.blk, h.own.weaken hb, Nat.le_trans hb h.hb, h.rng, h.len, h.max, h.ne5⟩

theorem QIs.at_pos {w : World} {t : TypeId} {base b : Nat} {v : Value} {xs : List Int} {most : Nat} {skip : Bool} (h : QIs w t base b v xs most skip) (hp : 0 < xs.length) :
    ∃ g off cap, v = .slice (some ⟨g, off, none⟩) xs.length cap ∧ xs.length ≤ cap ∧ cap ≤ maxLen ∧ g ≠ b := by
  have hO := h.own
  rcases h.own.2 with ⟨hv, h0⟩ | ⟨g, off, cap, cur, hv, _, hh, h1, h2, _⟩
  · omega
  · refine ⟨_, _, _, hv, h1, h2, ?_⟩
    rintro rfl
    have := h.blk; rw [hh] at this; cases this; exact h.ne5 rfl

def passX (xs : List Int) : List Int := match nlAt xs with | some i => xs.drop (i + 1) | none => []
def passS (xs : List Int) (skip : Bool) : Bool := if (nlAt xs).isSome then false else skip
def putN (xs : List Int) (most : Nat) (bs : List Int) : Nat := min bs.length (most - xs.length)
def putX (xs : List Int) (most : Nat) (skip : Bool) (bs : List Int) : List Int := if skip = true ∧ 0 < putN xs most bs then passX (xs ++ bs.take (putN xs most bs)) else xs ++ bs.take (putN xs most bs)
def putS (xs : List Int) (most : Nat) (skip : Bool) (bs : List Int) : Bool := if skip = true ∧ 0 < putN xs most bs then passS (xs ++ bs.take (putN xs most bs)) skip else skip
def takeN (xs : List Int) (n : Int) : Nat := min n.toNat xs.length
theorem passX_len (xs : List Int) : (passX xs).length ≤ xs.length := by unfold passX; split <;> simp
theorem passX_mem {xs : List Int} {x : Int} (h : x ∈ passX xs) : x ∈ xs := by
  unfold passX at h
  split at h
  · exact List.mem_of_mem_drop h
  · cases h
/-- v' lies where v lay, or in a block that is new behind w -/
def FromTo (w : World) (v v' : Value) : Prop := ∀ g, v'.ownBlock = some g → v.ownBlock = some g ∨ w.heap.size ≤ g
end Go.Proofs.Ytfcfckcpmjccoaa
