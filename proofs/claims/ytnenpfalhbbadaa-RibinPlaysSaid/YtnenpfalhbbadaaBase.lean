/- Small lemmas on worlds, blocks and owned rows, used by the walks of this claim; no conditions beyond what each states. -/
import Derived.Handy
import Derived.WalkSpells
import Derived.WalkLawsBesides
import Derived.BigQuiet
import Derived.Deep.RegionHeld3
namespace Go.Proofs.Ytnenpfalhbbadaa
open Go.RowKit

theorem hidp {p : Prop} (h : p) : Hid p := h

theorem heap_setCell_same {w : World} {b : Nat} {c : Array Value} {e : TypeId} {f : Nat × Nat} (h : w.heap[b]? = some (.cells c e f)) (o : Nat) (v : Value) :
    (w.setCell ⟨b, o, none⟩ v).heap[b]? = some (.cells (c.setIfInBounds o v) e f) := by
  simp [World.setCell, Array.getElem?_modify, h]
theorem heap_setCell_far {w : World} {b : Nat} {x : Obj} (h : w.heap[b]? = some x) (a : Addr) (v : Value) (hb : b ≠ a.block) : (w.setCell a v).heap[b]? = some x := by
  rw [Below.heap_setCell _ _ _ _ hb]; exact h
theorem heap_alloc_at {w : World} {b : Nat} {x : Obj} (h : w.heap[b]? = some x) (o : Obj) : (w.alloc o).heap[b]? = some x := by
  rw [heap_alloc_old w o (Array.getElem?_eq_some_iff.1 h).1]; exact h
theorem heap_alloc_top (w : World) (o : Obj) (n : Nat) (hn : n = w.heap.size) : (w.alloc o).heap[n]? = some o := by
  subst hn; exact heap_alloc_new w o
theorem cellOf {w : World} {b : Nat} {c : Array Value} {e : TypeId} {f : Nat × Nat} (h : w.heap[b]? = some (.cells c e f)) (o : Nat) {v : Value} (hv : c[o]? = some v) : w.cell? ⟨b, o, none⟩ = some v := by
  simp [World.cell?, h, hv]
theorem frozenOf {w : World} {b : Nat} {c : Array Value} {e : TypeId} (h : w.heap[b]? = some (.cells c e (0, 0))) (o : Nat) : w.frozen? ⟨b, o, none⟩ = false := by
  simp [World.frozen?, h]
theorem three_set {w : World} {b : Nat} {x0 x1 x2 : Value} {e : TypeId} {f : Nat × Nat} (h : w.heap[b]? = some (.cells #[x0, x1, x2] e f)) (y0 y1 y2 : Value) :
    (((w.setCell ⟨b, 0, none⟩ y0).setCell ⟨b, 1, none⟩ y1).setCell ⟨b, 2, none⟩ y2).heap[b]? = some (.cells #[y0, y1, y2] e f) := by
  simp [heap_setCell_same (heap_setCell_same (heap_setCell_same h 0 y0) 1 y1) 2 y2]
theorem ltOf {w : World} {b : Nat} {x : Obj} (h : w.heap[b]? = some x) : b < w.heap.size := (Array.getElem?_eq_some_iff.1 h).1
theorem heap_below {B : Nat} {w w' : World} {b : Nat} {x : Obj} (hb : Below B w w') (h : w.heap[b]? = some x) (hB : b < B) : w'.heap[b]? = some x := by
  rw [hb.block b hB]; exact h
theorem heap_grown {w w' : World} {row : Option Nat} {b : Nat} {x : Obj} (hg : w.grownBy w' row) (h : w.heap[b]? = some x) (hne : some b ≠ row) : w'.heap[b]? = some x := by
  rw [hg.block b (ltOf h) hne]; exact h
theorem ownsRow_weaken {w : World} {base base' : Nat} {e : TypeId} {size : Nat} {v : Value} {n : Nat} {xs : List Value} (h : w.ownsRow base e size v n xs) (hb : base' ≤ base) : w.ownsRow base' e size v n xs := by
  obtain ⟨h1, h2⟩ := h
  refine ⟨h1, ?_⟩
  rcases h2 with h2 | ⟨g, cap, cur, hv, hg, r⟩
  · exact .inl h2
  · exact .inr ⟨g, cap, cur, hv, Nat.le_trans hb hg, r⟩
/-- An owned row stays owned in a world that is the same below B, if its base and length lie there. -/
theorem ownsRow_below {B : Nat} {w w' : World} {base : Nat} {e : TypeId} {size : Nat} {v : Value} {n : Nat} {xs : List Value} (h : w.ownsRow base e size v n xs) (hb : Below B w w') (hB : w.heap.size ≤ B) : w'.ownsRow base e size v n xs := by
  obtain ⟨h1, h2⟩ := h
  refine ⟨h1, ?_⟩
  rcases h2 with h2 | ⟨g, cap, cur, hv, hg, hh, r⟩
  · exact .inl h2
  · exact .inr ⟨g, cap, cur, hv, hg, heap_below hb hh (Nat.lt_of_lt_of_le (ltOf hh) hB), r⟩
theorem ownsRow_slice {w : World} {base : Nat} {e : TypeId} {size : Nat} {v : Value} {n : Nat} {xs : List Value} (h : w.ownsRow base e size v n xs) : ∃ a cap, v = .slice a n cap := by
  rcases h.2 with ⟨rfl, rfl⟩ | ⟨g, cap, cur, rfl, _⟩
  · exact ⟨_, _, rfl⟩
  · exact ⟨_, _, rfl⟩
/-- A row that is not empty begins at an address of the call's own. -/
theorem ownsRow_at {w : World} {base : Nat} {e : TypeId} {size : Nat} {v : Value} {n : Nat} {xs : List Value} (h : w.ownsRow base e size v n xs) (hn : 0 < n) : ∃ g cap, v = .slice (some ⟨g, 0, none⟩) n cap ∧ base ≤ g ∧ g < w.heap.size ∧ ∀ j u, xs[j]? = some u → w.cell? ⟨g, j, none⟩ = some u := by
  have hc : ∀ g, v.ownBlock = some g → ∀ j u, xs[j]? = some u → w.cell? ((⟨g, 0, none⟩ : Addr).add j) = some u := fun g hg => h.cells hg
  rcases h.2 with ⟨rfl, rfl⟩ | ⟨g, cap, cur, rfl, hg, hh, _⟩
  · omega
  · refine ⟨g, cap, rfl, hg, ltOf hh, fun j u hu => ?_⟩
    have := hc g rfl j u hu
    have e : ((⟨g, 0, none⟩ : Addr).add j) = ⟨g, j, none⟩ := by unfold Addr.add; split <;> simp_all
    rwa [e] at this
theorem grownBy_trans {a b c : World} {row : Option Nat} (h : a.grownBy b row) (k : b.grownBy c row) : a.grownBy c row :=
  ⟨k.os.trans h.os, k.tape.trans h.tape, k.output.trans h.output, Nat.le_trans h.size k.size, fun i hi hne => (k.block i (Nat.lt_of_lt_of_le hi h.size) hne).trans (h.block i hi hne)⟩
/-- 'append(out, y)' of one cell, out the call's own: y has just been laid in a new block. -/
theorem wpList_append1 {P : Program} (w : World) {ops : Array Oper} {rest : List Oper} {o : Oper} {a : Act} {Q : Exit → Act → World → Prop} (hgd : o.guard = none) (s x : Operand) (t : TypeId)
    (ho : o.op = .call { callee := .builtin .append, args := #[s, x], argTypes := #[t, t] })
    (base : Nat) (e : TypeId) (i : TypeInfo) (z : Value) (bytes : Nat) (ht : P.underlying t = some (.slice e)) (hi : P.info? e = some i) (hz : i.zero = some z)
    (hsize : i.size = 1) (hby : i.bytes = bytes) (hzs : z.cells.size = 1)
    (v : Value) (n : Nat) (xs : List Value) (hs : a.eval s = v) (hown : w.ownsRow base e 1 v n xs)
    (y : Value) (g : Nat) (hx : a.eval x = .slice (some ⟨g, 0, none⟩) 1 1) (hy : y.oneCell' = true) (hgz : g = w.heap.size)
    (hbytes : (n + 1) * bytes ≤ 140737488355328) (hb0 : 0 < bytes) (hbase : base ≤ w.heap.size)
    (h : ∀ v' w', w'.ownsRow base e 1 v' (n + 1) (xs ++ [y]) → w.grownBy w' v.ownBlock → wpList P ops Q rest (a.put o.dst v') w') : wpList P ops Q (o :: rest) a (w.alloc (.cells #[y] e)) := by
  subst hgz
  refine wpList_append_own (w.alloc (.cells #[y] e)) hgd s x t ho base e i z 1 bytes ht hi hz hsize hby hzs (by decide) v n xs hs (hown.alloc _) ⟨w.heap.size, 0, none⟩ 1 1 [y] hx rfl ?_ ?_ ?_ hbytes ?_ ?_
  · intro j u hj
    match j, hj with
    | 0, hj => simp at hj; subst hj; simp [Addr.add]
  · intro u hu; simp at hu; subst hu; exact hy
  · have : (n + 1) * 1 ≤ (n + 1) * bytes := Nat.mul_le_mul_left _ hb0
    unfold maxLen; omega
  · simp; omega
  · intro v' w' h1 h2 _
    exact h v' w' h1 (grownBy_trans (World.grownBy_alloc w _ _) h2)
/-- The slice value v of n elements, 'size' cells each, reads as the cells xs (nothing is said of who owns them). -/
def RowAt (w : World) (size : Nat) (v : Value) (n : Nat) (xs : List Value) : Prop :=
  xs.length = n * size ∧ ∃ a cap, v = .slice a n cap ∧ (xs ≠ [] → ∃ g o, a = some ⟨g, o, none⟩ ∧ ∀ j u, xs[j]? = some u → w.cell? ⟨g, o + j, none⟩ = some u)
theorem RowAt.of_owns {w : World} {base : Nat} {e : TypeId} {size : Nat} {v : Value} {n : Nat} {xs : List Value} (h : w.ownsRow base e size v n xs) : RowAt w size v n xs := by
  refine ⟨h.1, ?_⟩
  by_cases hn : 0 < n
  · obtain ⟨g, cap, rfl, _, _, hc⟩ := ownsRow_at h hn
    exact ⟨_, cap, rfl, fun _ => ⟨g, 0, rfl, fun j u hu => by simpa using hc j u hu⟩⟩
  · obtain ⟨a, cap, rfl⟩ := ownsRow_slice h
    refine ⟨a, cap, rfl, fun hx => absurd (List.eq_nil_of_length_eq_zero ?_) hx⟩
    rw [h.1]; obtain rfl : n = 0 := by omega
    simp
theorem RowAt.kept {w w' : World} {size : Nat} {v : Value} {n : Nat} {xs : List Value} (h : RowAt w size v n xs) (hk : ∀ p u, w.cell? p = some u → w'.cell? p = some u) : RowAt w' size v n xs := by
  obtain ⟨hl, a, cap, rfl, hr⟩ := h
  refine ⟨hl, a, cap, rfl, fun hx => ?_⟩
  obtain ⟨g, o, ha, hc⟩ := hr hx
  exact ⟨g, o, ha, fun j u hu => hk _ _ (hc j u hu)⟩
theorem below_cell {B : Nat} {w w' : World} (hb : Below B w w') (hB : w.heap.size ≤ B) : ∀ p u, w.cell? p = some u → w'.cell? p = some u := fun p u h => by
  rw [hb.cell (Nat.lt_of_lt_of_le (World.block_lt_of_cell? w p h) hB)]; exact h
theorem RowAt.below {B : Nat} {w w' : World} {size : Nat} {v : Value} {n : Nat} {xs : List Value} (h : RowAt w size v n xs) (hb : Below B w w') (hB : w.heap.size ≤ B) : RowAt w' size v n xs := h.kept (below_cell hb hB)
/-- What the walk wants of a row of one-cell elements that is not empty. -/
theorem RowAt.open1 {w : World} {v : Value} {n : Nat} {xs : List Value} (h : RowAt w 1 v n xs) : ∃ a cap, v = .slice a n cap ∧ (0 < n → ∃ g o, a = some ⟨g, o, none⟩ ∧ ∀ j, j < n → w.cell? ⟨g, o + j, none⟩ = some (xs.getD j undef)) := by
  obtain ⟨hl, a, cap, rfl, hr⟩ := h
  refine ⟨a, cap, rfl, fun hn => ?_⟩
  obtain ⟨g, o, ha, hc⟩ := hr (by intro e; subst e; simp at hl; omega)
  refine ⟨g, o, ha, fun j hj => hc j _ ?_⟩
  have : j < xs.length := by omega
  simp [List.getD, this]
end Go.Proofs.Ytnenpfalhbbadaa
