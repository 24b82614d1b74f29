/- The law ClockSkips answers true, whatever clock and number. -/
import Derived.Test.YtefnbmggokfanaaLawSets
namespace Go.Proofs.Ytefnbmggokfanaa
open Go.RowKit

set_option maxHeartbeats 4000000 in
theorem skips_any (a b c n : Int) (w : World) (ha : a ≤ 9223372036854775807) (hb : b ≤ 9223372036854775807) (hc : c ≤ 9223372036854775807) :
    Calls Try.prog 5 #[.agg #[.int .i64 a, .int .i64 b, .int .i64 c], .int .i64 n] w fun e w' => e = .returned (.bool true) ∧ Below w.heap.size w w' := by
  by_cases hn : 5000 < n
  · go_enter Try.func5, Try.ntmps5
    go_wp2_with fail
    go_call awake_any _ as e w1 ⟨rfl, hbel⟩
    go_wp2
    go_ret
    exact ⟨rfl, Below.trans (by go_grown) (hbel.mono (by simp))⟩
  · have heq := eq22_same
    go_enter Try.func5, Try.ntmps5
    go_wp2_with fail
    refine (skip_any a b c n _ ha hb hc (by omega)).mono ?_
    rintro e w1 ⟨v, rfl, hown1, hbel1⟩
    obtain ⟨m, hm⟩ : ∃ m, m = skipN a b c n := ⟨_, rfl⟩
    rw [← hm] at hown1 ⊢
    have HM := hidp hm
    clear hm
    have hsrc1 := heap_below hbel1 (heap_alloc_new w _) (by simp)
    have hb1 : Below w.heap.size w w1 := Below.trans (by go_grown) (hbel1.mono (by simp))
    have hz1 := ltOf hsrc1
    have s0 := cellOf hsrc1 0 (v := .int .i64 a) rfl
    have s1 := cellOf hsrc1 1 (v := .int .i64 b) rfl
    have s2 := cellOf hsrc1 2 (v := .int .i64 c) rfl
    have hle := out3_le m a b c 3
    obtain ⟨ad1, cap1, rfl⟩ := ownsRow_slice hown1
    have H1 := hidp hown1
    clear hsrc1 hown1 hbel1
    go_wp2_with fail
    refine (rskip_any a b c n _ ha hb hc (by omega)).mono ?_
    rintro e w2 ⟨v, rfl, hown2, hbel2⟩
    rw [← HM.out] at hown2 ⊢
    have hz2 : w1.heap.size < w2.heap.size := by have := hbel2.size; simp at this; omega
    have hx2 := heap_below hbel2 (heap_alloc_new w1 _) (by simp)
    have hown12 := ownsRow_below (H1.out.alloc _) hbel2 (Nat.le_refl _)
    have hb2 : Below w.heap.size w w2 := (hb1.alloc (by omega) _).trans (hbel2.mono (by simp; omega))
    obtain ⟨ad2, cap2, rfl⟩ := ownsRow_slice hown2
    have x0 := cellOf hx2 0 (v := .int .i64 (dn m a)) rfl
    have x1 := cellOf hx2 1 (v := .int .i64 (dn m b)) rfl
    have x2 := cellOf hx2 2 (v := .int .i64 (dn m c)) rfl
    have l1 := RowAt.of_owns hown12
    have l2 := RowAt.of_owns hown2
    have L := hidp (And.intro l1 l2)
    clear hx2 hown12 hown2 hbel2 s0 s1 s2 H1 l1 l2
    go_wp2_with fail
    go_call same_any _ _ _ _ _ (L.out.1.below (B := w2.heap.size) (by go_grown) (Nat.le_refl _)) (L.out.2.below (B := w2.heap.size) (by go_grown) (Nat.le_refl _)) (by omega) as e w3 ⟨rfl, hbel3⟩
    simp only [decide_true]
    have hb3 : Below w.heap.size w w3 := ((hb2.alloc (by omega) _)).trans (hbel3.mono (by simp; omega))
    have hz3 : w2.heap.size < w3.heap.size := by have := hbel3.size; simp at this; omega
    clear hbel3 L x0 x1 x2
    go_wp2_with fail
    go_call awake_any _ as e w5 ⟨rfl, hbel5⟩
    go_wp2
    go_ret
    exact ⟨rfl, hb3.trans (hbel5.mono (by omega))⟩
end Go.Proofs.Ytefnbmggokfanaa
