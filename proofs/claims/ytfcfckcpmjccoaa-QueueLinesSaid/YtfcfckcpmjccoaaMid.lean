/- A slice of one-cell elements that may begin in the middle of a block of the call's own: what is read, cut and appended; each law under what it states. -/
import Derived.Test.YtfcfckcpmjccoaaBase
import Derived.ArgAppend
namespace Go.Proofs.Ytfcfckcpmjccoaa
open Go.RowKit

def OwnMid (w : World) (base : Nat) (e : TypeId) (v : Value) (n : Nat) (xs : List Value) : Prop :=
  xs.length = n ∧ ((v = .slice none 0 0 ∧ n = 0) ∨ ∃ g off cap cur, v = .slice (some ⟨g, off, none⟩) n cap ∧ base ≤ g ∧ w.heap[g]? = some (.cells cur e (0, 0)) ∧ n ≤ cap ∧ cap ≤ maxLen ∧ off + cap ≤ cur.size ∧
    ∀ j u, xs[j]? = some u → cur[off + j]? = some u)

section
variable {w : World} {base : Nat} {e : TypeId} {v : Value} {n : Nat} {xs : List Value}
theorem OwnMid.nil (w : World) (base : Nat) (e : TypeId) : OwnMid w base e (.slice none 0 0) 0 [] := ⟨rfl, .inl ⟨rfl, rfl⟩⟩
theorem OwnMid.of_owns (h : w.ownsRow base e 1 v n xs) : OwnMid w base e v n xs := by
  refine ⟨by simpa using h.1, ?_⟩
  rcases h.2 with h2 | ⟨g, cap, cur, rfl, hg, hh, hn, hm, hs, ht⟩
  · exact .inl h2
  · refine .inr ⟨g, 0, cap, cur, rfl, hg, hh, hn, hm, by omega, fun j u hu => ?_⟩
    rw [← ht, List.getElem?_take] at hu
    split at hu
    · simpa using hu
    · cases hu
theorem OwnMid.weaken {base' : Nat} (h : OwnMid w base e v n xs) (hb : base' ≤ base) : OwnMid w base' e v n xs := by
  obtain ⟨h1, h2 | ⟨g, off, cap, cur, hv, hg, r⟩⟩ := h
  · exact ⟨h1, .inl h2⟩
  · exact ⟨h1, .inr ⟨g, off, cap, cur, hv, Nat.le_trans hb hg, r⟩⟩
theorem OwnMid.slice (h : OwnMid w base e v n xs) : ∃ a cap, v = .slice a n cap := by
  rcases h.2 with ⟨rfl, rfl⟩ | ⟨g, off, cap, cur, rfl, _⟩
  · exact ⟨_, _, rfl⟩
  · exact ⟨_, _, rfl⟩
theorem OwnMid.block (h : OwnMid w base e v n xs) : ∀ g, v.ownBlock = some g → base ≤ g ∧ ∃ cur, w.heap[g]? = some (.cells cur e (0, 0)) := by
  intro g hg
  rcases h.2 with ⟨rfl, _⟩ | ⟨g', off, cap, cur, rfl, hb, hh, _⟩
  · simp [Value.ownBlock] at hg
  · simp [Value.ownBlock] at hg
    subst hg
    exact ⟨hb, cur, hh⟩
/-- It stays what it is where its block stays. -/
theorem OwnMid.of_heap {w' : World} (h : OwnMid w base e v n xs) (hk : ∀ g, v.ownBlock = some g → w'.heap[g]? = w.heap[g]?) : OwnMid w' base e v n xs := by
  obtain ⟨h1, h2 | ⟨g, off, cap, cur, rfl, hg, hh, r⟩⟩ := h
  · exact ⟨h1, .inl h2⟩
  · exact ⟨h1, .inr ⟨g, off, cap, cur, rfl, hg, by rw [hk g rfl]; exact hh, r⟩⟩
theorem OwnMid.below {B : Nat} {w' : World} (h : OwnMid w base e v n xs) (hb : Below B w w') (hB : w.heap.size ≤ B) : OwnMid w' base e v n xs :=
  h.of_heap fun g hg => by obtain ⟨_, cur, hh⟩ := h.block g hg; exact hb.block g (Nat.lt_of_lt_of_le (ltOf hh) hB)
theorem OwnMid.alloc (h : OwnMid w base e v n xs) (o : Obj) : OwnMid (w.alloc o) base e v n xs :=
  h.of_heap fun g hg => by obtain ⟨_, cur, hh⟩ := h.block g hg; exact heap_alloc_old w o (ltOf hh)
theorem OwnMid.row (h : OwnMid w base e v n xs) : RowAt w 1 v n xs := by
  refine ⟨by simpa using h.1, ?_⟩
  rcases h.2 with ⟨rfl, rfl⟩ | ⟨g, off, cap, cur, rfl, _, hh, _, _, _, hc⟩
  · exact ⟨_, _, rfl, fun hx => absurd (List.eq_nil_of_length_eq_zero h.1) hx⟩
  · exact ⟨_, _, rfl, fun _ => ⟨g, off, rfl, fun j u hu => cellOf hh _ (hc j u hu)⟩⟩
/-- 's[1:]' of a row that is not empty. -/
theorem OwnMid.tail {x : Value} {r : List Value} {g off cap : Nat} (h : OwnMid w base e (.slice (some ⟨g, off, none⟩) n cap) n (x :: r)) :
    OwnMid w base e (.slice (some ⟨g, if cap = 1 then off else off + 1, none⟩) (n - 1) (cap - 1)) (n - 1) r := by
  obtain ⟨h1, ⟨hv, _⟩ | ⟨g', off', cap', cur, hv, hg, hh, hn, hm, hs, hc⟩⟩ := h
  · cases hv
  · cases hv
    have hc1 : 1 ≤ cap := by simp at h1; omega
    refine ⟨by simp at h1; omega, .inr ⟨g, _, cap - 1, cur, rfl, hg, hh, by omega, by omega, by split <;> omega, fun j u hu => ?_⟩⟩
    have := hc (j + 1) u (by simpa using hu)
    have hlen : j < r.length := (List.getElem?_eq_some_iff.1 hu).1
    simp at h1
    rw [if_neg (by omega), show off + 1 + j = off + (j + 1) by omega]
    exact this

variable {P : Program}
/-- 'append(out, y)' of one cell; y has just been laid in a new block. -/
theorem wpList_append1_mid {ops : Array Oper} {rest : List Oper} {o : Oper} {a : Act} {Q : Exit → Act → World → Prop} (hgd : o.guard = none) (s x : Operand) (t : TypeId)
    (ho : o.op = .call { callee := .builtin .append, args := #[s, x], argTypes := #[t, t] })
    (i : TypeInfo) (z : Value) (bytes : Nat) (ht : P.underlying t = some (.slice e)) (hi : P.info? e = some i) (hz : i.zero = some z)
    (hsize : i.size = 1) (hby : i.bytes = bytes) (hzs : z.cells.size = 1)
    (hs : a.eval s = v) (hown : OwnMid w base e v n xs)
    (y : Value) (g : Nat) (hx : a.eval x = .slice (some ⟨g, 0, none⟩) 1 1) (hy : y.oneCell' = true) (hgz : g = w.heap.size)
    (hbytes : (n + 1) * bytes ≤ 140737488355328) (hb0 : 0 < bytes) (hbase : base ≤ w.heap.size)
    (h : ∀ v' w', OwnMid w' base e v' (n + 1) (xs ++ [y]) → w.grownBy w' v.ownBlock → wpList P ops Q rest (a.put o.dst v') w') : wpList P ops Q (o :: rest) a (w.alloc (.cells #[y] e)) := by
  subst hgz
  have h63 : n + 1 ≤ maxLen := by
    have : (n + 1) * 1 ≤ (n + 1) * bytes := Nat.mul_le_mul_left _ hb0
    unfold maxLen; omega
  have hnew : ∀ j u, [y][j]? = some u → (w.alloc (.cells #[y] e)).cell? ((⟨w.heap.size, 0, none⟩ : Addr).add j) = some u := by
    intro j u hj
    match j, hj with
    | 0, hj => simp at hj; subst hj; simp [Addr.add]
  have hone : ∀ u ∈ [y], u.oneCell' = true := by intro u hu; simp at hu; subst hu; exact hy
  obtain ⟨hl, ⟨rfl, rfl⟩ | ⟨g, off, cap, cur, rfl, hg, hh, hn, hm, hsz, hc⟩⟩ := hown
  · obtain rfl : xs = [] := List.eq_nil_of_length_eq_zero hl
    refine wpList_append_own (w.alloc (.cells #[y] e)) hgd s x t ho base e i z 1 bytes ht hi hz hsize hby hzs (by decide) (.slice none 0 0) 0 [] hs (World.ownsRow_nil _ _ _ _) ⟨w.heap.size, 0, none⟩ 1 1 [y] hx rfl hnew hone h63 hbytes (by simp; omega) ?_
    intro v' w' h1 h2 _
    exact h v' w' (OwnMid.of_owns h1) (grownBy_trans (World.grownBy_alloc w _ _) h2)
  · have hcell : ∀ j u, xs[j]? = some u → (w.alloc (.cells #[y] e)).cell? ⟨g, off + j, none⟩ = some u := fun j u hu => cellOf (heap_alloc_at hh _) _ (hc j u hu)
    have hh' := heap_alloc_at hh (.cells #[y] e)
    refine wpList_append_arg (w.alloc (.cells #[y] e)) hgd s x t ho e i z 1 bytes ht hi hz hsize hby hzs (by decide) g off n cap xs hs (by simpa using hl) hcell ⟨w.heap.size, 0, none⟩ 1 1 [y] hx rfl hnew hone ?_ h63 hbytes ?_ ?_
    · intro hr j hj
      simp at hj
      subst hj
      refine ⟨?_, frozenOf hh' _⟩
      have hlt' : off + n < cur.size := by omega
      simp [World.cell?, hh', hlt']
    · intro hr
      refine h _ _ ⟨by simp [hl], .inr ⟨g, off, cap, cur.setIfInBounds (off + n * 1) y, rfl, hg, ?_, hr, hm, by simpa using hsz, ?_⟩⟩ ?_
      · show ((w.alloc (.cells #[y] e)).setCell ⟨g, off + n * 1, none⟩ y).heap[g]? = _
        exact heap_setCell_same hh' _ _
      · intro j u hu
        rw [Array.getElem?_setIfInBounds]
        rw [List.getElem?_append] at hu
        by_cases hj : j < xs.length
        · rw [if_pos hj] at hu
          rw [if_neg (by omega)]
          exact hc j u hu
        · rw [if_neg hj] at hu
          have hj0 : j = n := by
            have := (List.getElem?_eq_some_iff.1 hu).1
            simp at this; omega
          subst hj0
          rw [hl, Nat.sub_self] at hu
          simp at hu
          subst hu
          rw [if_pos (by omega), if_pos (by omega)]
      · refine ⟨rfl, rfl, rfl, ?_, fun k hk hne => ?_⟩
        · show w.heap.size ≤ ((w.alloc (.cells #[y] e)).setCell ⟨g, off + n * 1, none⟩ y).heap.size
          simp [World.setCell]
        · show ((w.alloc (.cells #[y] e)).setCell ⟨g, off + n * 1, none⟩ y).heap[k]? = _
          rw [Below.heap_setCell _ _ _ _ (by intro e; exact hne (by simp [Value.ownBlock, e])), heap_alloc_old w _ hk]
    · intro hfull v' w' h1 h2
      refine h v' w' ((OwnMid.of_owns h1).weaken (by simp; omega)) ⟨h2.os, h2.tape, h2.output, Nat.le_trans (by simp) h2.size, fun k hk hne => ?_⟩
      rw [h2.block k (by simp; omega) (by simp), heap_alloc_old w _ hk]
end
end Go.Proofs.Ytfcfckcpmjccoaa
