/- Prefixes are cloned. -/
import Derived.Test.YtnenpfalhbbadaaPS2
import Derived.Test.YtnenpfalhbbadaaApp
namespace Go.Proofs.Ytnenpfalhbbadaa
open Go.RowKit

theorem info_parts {t : TypeId} {z : Value} {s b : Nat} (h : (Try.prog.info? t).map (fun i => (i.zero, i.size, i.bytes)) = some (some z, s, b)) : ∃ i, Try.prog.info? t = some i ∧ i.zero = some z ∧ i.size = s ∧ i.bytes = b := by
  cases hi : Try.prog.info? t with
  | none => rw [hi] at h; cases h
  | some i =>
    rw [hi] at h
    simp at h
    exact ⟨i, rfl, h.1, h.2.1, h.2.2⟩
def zero44v : Value := .agg #[.int .u32 0, .int .i64 0]
theorem Try.infos44 : (Try.prog.info? 44).map (fun i => (i.zero, i.size, i.bytes)) = some (some zero44v, 2, 16) := by kernel_rfl
theorem pfs_one (l : List Pf) : ∀ u ∈ l.flatMap Pf.cells, u.oneCell' = true := by
  intro u hu
  obtain ⟨p, -, hp⟩ := List.mem_flatMap.1 hu
  simp [Pf.cells] at hp
  rcases hp with rfl | rfl <;> rfl
theorem pfs_len : ∀ l : List Pf, (l.flatMap Pf.cells).length = l.length * 2
  | [] => rfl
  | p :: r => by rw [List.flatMap_cons, List.length_append, pfs_len r, Pf.clen, List.length_cons]; omega
theorem PfsV.src {w : World} {a : Option Addr} {n : Nat} {l : List Pf} (h : PfsV w a n l) : 0 < n → ∃ ad, a = some ad ∧ ∀ j u, (l.flatMap Pf.cells)[j]? = some u → w.cell? (ad.add j) = some u := fun hn => by
  obtain ⟨g, o, rfl, hr⟩ := h.1.2 hn
  exact ⟨_, rfl, fun j u hu => by rw [Addr.add_lit]; exact hr j u hu⟩
theorem clone_any (a : Option Addr) (n c : Nat) (l : List Pf) (w : World) (h : PfsV w a n l) (hn : n ≤ 1000) :
    Calls Try.prog 29 #[.slice a n c] w fun e w' => (∃ v, e = .returned v ∧ w'.ownsRow w.heap.size 44 2 v n (l.flatMap Pf.cells)) ∧ Below w.heap.size w w' := by
  cases a with
  | none =>
    have h0 : n = 0 := by
      rcases Nat.eq_zero_or_pos n with h0 | h0
      · exact h0
      · obtain ⟨g, o, e, _⟩ := h.1.2 h0; cases e
    subst h0
    obtain rfl : l = [] := List.eq_nil_of_length_eq_zero h.2.1
    have heq : ∀ w, (binOp BinOp.eql 29 (.slice none 0 c) (.slice none 0 0)).run Try.prog w = .ok (.bool true) w := fun w => by kernel_rfl
    clear h
    go_enter Try.func29, Try.ntmps29
    go_wp2
    go_ret
    exact ⟨⟨_, rfl, World.ownsRow_nil _ _ _ _⟩, Below.refl _ _⟩
  | some ad =>
    obtain ⟨i0, hi0, hz0, hz1, hz2⟩ := info_parts Try.infos44
    have heq : ∀ w, (binOp BinOp.eql 29 (.slice (some ad) n c) (.slice none 0 0)).run Try.prog w = .ok (.bool false) w := fun w => by kernel_rfl
    have H := hidp (h.below ((Below.refl w.heap.size w).alloc (Nat.le_refl _) (.cells #[] 44)))
    have hB := hidp ((Below.refl w.heap.size w).alloc (Nat.le_refl _) (.cells #[] 44))
    clear h
    go_enter Try.func29, Try.ntmps29
    go_wp2_with (first
      | (at_builtin
         refine wpList_append_src (w := w.alloc (.cells #[] 44)) rfl (.tmp 5) (.tmp 6) 29 rfl w.heap.size 44 i0 zero44v 2 16 Try.underlying29 hi0 hz0 hz1 hz2 rfl (by omega) (.slice (some ⟨w.heap.size, 0, none⟩) 0 0) 0 [] rfl ⟨by simp, .inr ⟨w.heap.size, 0, #[], rfl, Nat.le_refl _, heap_alloc_new _ _, Nat.le_refl _, by unfold maxLen; omega, by simp, by simp⟩⟩ (some ad) n c (l.flatMap Pf.cells) rfl (by rw [pfs_len, H.out.2.1]) H.out.src (pfs_one l) (by simp only [maxLen]; omega) (by omega) (by simp) ?_
         intro v1 w1 hown1 hg1 hat1
         simp only [Nat.zero_add, List.nil_append] at hown1
         have hB1 := hidp (hB.out.grown hg1 hB.out.size (by intro k hk; cases hk; exact Nat.le_refl _))
         obtain ⟨a1, c1, hv1⟩ := ownsRow_slice hown1
         have O1 := hidp hown1
         subst hv1
         clear hown1 hg1 hat1))
    go_ret
    exact ⟨⟨_, rfl, O1.out⟩, hB1.out⟩
end Go.Proofs.Ytnenpfalhbbadaa
