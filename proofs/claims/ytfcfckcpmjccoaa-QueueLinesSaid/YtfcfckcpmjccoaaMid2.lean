/- As Mid's law on append, with a sharper word on where the new row lies. -/
import Derived.Test.YtfcfckcpmjccoaaMid
namespace Go.Proofs.Ytfcfckcpmjccoaa
open Go.RowKit
section
variable {w : World} {base : Nat} {e : TypeId} {v : Value} {n : Nat} {xs : List Value}
variable {P : Program}
/-- 'append(out, y)' of one cell; y has just been laid in a new block. -/
theorem wpList_append1_sharp {ops : Array Oper} {rest : List Oper} {o : Oper} {a : Act} {Q : Exit → Act → World → Prop} (hgd : o.guard = none) (s x : Operand) (t : TypeId)
    (ho : o.op = .call { callee := .builtin .append, args := #[s, x], argTypes := #[t, t] })
    (i : TypeInfo) (z : Value) (bytes : Nat) (ht : P.underlying t = some (.slice e)) (hi : P.info? e = some i) (hz : i.zero = some z)
    (hsize : i.size = 1) (hby : i.bytes = bytes) (hzs : z.cells.size = 1)
    (hs : a.eval s = v) (hown : OwnMid w base e v n xs)
    (y : Value) (g : Nat) (hx : a.eval x = .slice (some ⟨g, 0, none⟩) 1 1) (hy : y.oneCell' = true) (hgz : g = w.heap.size)
    (hbytes : (n + 1) * bytes ≤ 140737488355328) (hb0 : 0 < bytes) (hbase : base ≤ w.heap.size)
    (h : ∀ v' w', OwnMid w' base e v' (n + 1) (xs ++ [y]) → w.grownBy w' v.ownBlock → (∀ k, v'.ownBlock = some k → v.ownBlock = some k ∨ w.heap.size ≤ k) → wpList P ops Q rest (a.put o.dst v') w') : wpList P ops Q (o :: rest) a (w.alloc (.cells #[y] e)) := by
  subst hgz
  have h63 : n + 1 ≤ maxLen := by
    have : (n + 1) * 1 ≤ (n + 1) * bytes := Nat.mul_le_mul_left _ hb0
    unfold maxLen; omega
  have hnew : ∀ j u, [y][j]? = some u → (w.alloc (.cells #[y] e)).cell? ((⟨w.heap.size, 0, none⟩ : Addr).add j) = some u := by
    intro j u hj
    match j, hj with
    | 0, hj => simp at hj; subst hj; simp [Addr.add]
  have hone : ∀ u ∈ [y], u.oneCell' = true := by intro u hu; simp at hu; subst hu; exact hy
  obtain ⟨hl, ⟨rfl, rfl⟩ | ⟨g, off, cap, cur, rfl, hg, hh, hn, hm, hsz, hc⟩⟩ := hown
  · obtain rfl : xs = [] := List.eq_nil_of_length_eq_zero hl
    refine wpList_append_own (w.alloc (.cells #[y] e)) hgd s x t ho w.heap.size e i z 1 bytes ht hi hz hsize hby hzs (by decide) (.slice none 0 0) 0 [] hs (World.ownsRow_nil _ _ _ _) ⟨w.heap.size, 0, none⟩ 1 1 [y] hx rfl hnew hone h63 hbytes (by simp) ?_
    intro v' w' h1 h2 _
    exact h v' w' ((OwnMid.of_owns h1).weaken hbase) (grownBy_trans (World.grownBy_alloc w _ _) h2) (fun k hk => .inr (h1.lt k hk).1)
  · have hcell : ∀ j u, xs[j]? = some u → (w.alloc (.cells #[y] e)).cell? ⟨g, off + j, none⟩ = some u := fun j u hu => cellOf (heap_alloc_at hh _) _ (hc j u hu)
    have hh' := heap_alloc_at hh (.cells #[y] e)
    refine wpList_append_arg (w.alloc (.cells #[y] e)) hgd s x t ho e i z 1 bytes ht hi hz hsize hby hzs (by decide) g off n cap xs hs (by simpa using hl) hcell ⟨w.heap.size, 0, none⟩ 1 1 [y] hx rfl hnew hone ?_ h63 hbytes ?_ ?_
    · intro hr j hj
      simp at hj
      subst hj
      refine ⟨?_, frozenOf hh' _⟩
      have hlt' : off + n < cur.size := by omega
      simp [World.cell?, hh', hlt']
    · intro hr
      refine h _ _ ⟨by simp [hl], .inr ⟨g, off, cap, cur.setIfInBounds (off + n * 1) y, rfl, hg, ?_, hr, hm, by simpa using hsz, ?_⟩⟩ ?_ (fun k hk => .inl hk)
      · show ((w.alloc (.cells #[y] e)).setCell ⟨g, off + n * 1, none⟩ y).heap[g]? = _
        exact heap_setCell_same hh' _ _
      · intro j u hu
        rw [Array.getElem?_setIfInBounds]
        rw [List.getElem?_append] at hu
        by_cases hj : j < xs.length
        · rw [if_pos hj] at hu
          rw [if_neg (by omega)]
          exact hc j u hu
        · rw [if_neg hj] at hu
          have hj0 : j = n := by
            have := (List.getElem?_eq_some_iff.1 hu).1
            simp at this; omega
          subst hj0
          rw [hl, Nat.sub_self] at hu
          simp at hu
          subst hu
          rw [if_pos (by omega), if_pos (by omega)]
      · refine ⟨rfl, rfl, rfl, ?_, fun k hk hne => ?_⟩
        · show w.heap.size ≤ ((w.alloc (.cells #[y] e)).setCell ⟨g, off + n * 1, none⟩ y).heap.size
          simp [World.setCell]
        · show ((w.alloc (.cells #[y] e)).setCell ⟨g, off + n * 1, none⟩ y).heap[k]? = _
          rw [Below.heap_setCell _ _ _ _ (by intro e; exact hne (by simp [Value.ownBlock, e])), heap_alloc_old w _ hk]
    · intro hfull v' w' h1 h2
      refine h v' w' ((OwnMid.of_owns h1).weaken (by simp; omega)) ⟨h2.os, h2.tape, h2.output, Nat.le_trans (by simp) h2.size, fun k hk hne => ?_⟩ (fun k hk => .inr (by have := (h1.lt k hk).1; simp at this; omega))
      rw [h2.block k (by simp; omega) (by simp), heap_alloc_old w _ hk]
end
end Go.Proofs.Ytfcfckcpmjccoaa
