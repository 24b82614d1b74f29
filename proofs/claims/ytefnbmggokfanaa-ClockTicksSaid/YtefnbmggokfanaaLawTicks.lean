/- The law ClockTicks answers true, whatever clock. -/
import Derived.Test.YtefnbmggokfanaaLawSets
namespace Go.Proofs.Ytefnbmggokfanaa
open Go.RowKit

set_option maxHeartbeats 4000000 in
theorem ticks_any (a b c : Int) (w : World) (ha : a ≤ 9223372036854775807) (hb : b ≤ 9223372036854775807) (hc : c ≤ 9223372036854775807) :
    Calls Try.prog 4 #[.agg #[.int .i64 a, .int .i64 b, .int .i64 c]] w fun e w' => e = .returned (.bool true) ∧ Below w.heap.size w w' := by
  go_enter Try.func4, Try.ntmps4
  go_wp2_with fail
  go_call tick_any a b c _ ha hb hc as e w1 ⟨v, rfl, hown1, hbel1⟩
  have hsrc1 := heap_below hbel1 (heap_alloc_new w _) (by simp)
  have hb1 : Below w.heap.size w w1 := Below.trans (by go_grown) (hbel1.mono (by simp))
  have hz1 := ltOf hsrc1
  have s0 := cellOf hsrc1 0 (v := .int .i64 a) rfl
  have s1 := cellOf hsrc1 1 (v := .int .i64 b) rfl
  have s2 := cellOf hsrc1 2 (v := .int .i64 c) rfl
  obtain ⟨ad1, cap1, rfl⟩ := ownsRow_slice hown1
  have H1 := hidp (And.intro hsrc1 hown1)
  clear hsrc1 hown1 hbel1
  go_wp2_with fail
  go_call rtick_any a b c _ ha hb hc as e w2 ⟨v, rfl, hown2, hbel2⟩
  have hz2 : w1.heap.size < w2.heap.size := by have := hbel2.size; simp at this; omega
  have hsrc2 := heap_below hbel2 (heap_alloc_at H1.out.1 _) (by simp; omega)
  have hx2 := heap_below hbel2 (heap_alloc_new w1 _) (by simp)
  have hown12 := ownsRow_below (H1.out.2.alloc _) hbel2 (Nat.le_refl _)
  have hb2 : Below w.heap.size w w2 := (hb1.alloc (by omega) _).trans (hbel2.mono (by simp; omega))
  obtain ⟨ad2, cap2, rfl⟩ := ownsRow_slice hown2
  have t0 := cellOf hsrc2 0 (v := .int .i64 a) rfl
  have t1 := cellOf hsrc2 1 (v := .int .i64 b) rfl
  have t2 := cellOf hsrc2 2 (v := .int .i64 c) rfl
  have x0 := cellOf hx2 0 (v := .int .i64 (dn 1 a)) rfl
  have x1 := cellOf hx2 1 (v := .int .i64 (dn 1 b)) rfl
  have x2 := cellOf hx2 2 (v := .int .i64 (dn 1 c)) rfl
  have H2 := hidp (And.intro (RowAt.of_owns hown12) (RowAt.of_owns hown2))
  have hle := out3_le 1 a b c 3
  have hlt2 := ltOf hsrc2
  clear hsrc2 hx2 hown12 hown2 hbel2 s0 s1 s2 H1
  go_wp2
  go_loop [7, 8] (fun f i => ∃ k : Nat, k ≤ 3 ∧ i = .int .i64 k ∧ ∃ y : Int, f = .int .i64 y ∧ Hid (fstK a b c k = y)) (fun _ i => 3 - (intOf i).toNat)
  case atStart => exact ⟨0, by omega, rfl, 0, rfl, rfl⟩
  case round =>
    obtain ⟨k, hk, rfl, y, rfl, hy⟩ := hrel
    obtain rfl | rfl | rfl | rfl : k = 0 ∨ k = 1 ∨ k = 2 ∨ k = 3 := by omega
    · have hnew : Hid (fstK a b c 1 = fst1 y a) := by have := hy.out; subst this; rfl
      clear hy
      by_cases h1 : 0 < a
      · by_cases h2 : y = 0
        · subst h2
          have hn : Hid (fstK a b c 1 = a) := by have := hnew.out; rw [this, fst1, if_pos ⟨h1, .inl rfl⟩]; rfl
          clear hnew
          go_wp2
          go_round
          case rel => exact ⟨1, by omega, rfl, _, rfl, hn⟩
          case measure => simp [intOf]
        · have h2' : (y == 0) = false := by simpa using h2
          by_cases h3 : a < y
          · have hn : Hid (fstK a b c 1 = a) := by have := hnew.out; rw [this, fst1, if_pos ⟨h1, .inr h3⟩]; rfl
            clear hnew
            go_wp2
            go_round
            case rel => exact ⟨1, by omega, rfl, _, rfl, hn⟩
            case measure => simp [intOf]
          · have hn : Hid (fstK a b c 1 = y) := by have := hnew.out; rw [this, fst1, if_neg (by omega)]; rfl
            clear hnew
            go_wp2
            go_round
            case rel => exact ⟨1, by omega, rfl, _, rfl, hn⟩
            case measure => simp [intOf]
      · have hn : Hid (fstK a b c 1 = y) := by have := hnew.out; rw [this, fst1, if_neg (by omega)]; rfl
        clear hnew
        go_wp2
        go_round
        case rel => exact ⟨1, by omega, rfl, _, rfl, hn⟩
        case measure => simp [intOf]
    · have hnew : Hid (fstK a b c 2 = fst1 y b) := by have := hy.out; subst this; rfl
      clear hy
      by_cases h1 : 0 < b
      · by_cases h2 : y = 0
        · subst h2
          have hn : Hid (fstK a b c 2 = b) := by have := hnew.out; rw [this, fst1, if_pos ⟨h1, .inl rfl⟩]; rfl
          clear hnew
          go_wp2
          go_round
          case rel => exact ⟨2, by omega, rfl, _, rfl, hn⟩
          case measure => simp [intOf]
        · have h2' : (y == 0) = false := by simpa using h2
          by_cases h3 : b < y
          · have hn : Hid (fstK a b c 2 = b) := by have := hnew.out; rw [this, fst1, if_pos ⟨h1, .inr h3⟩]; rfl
            clear hnew
            go_wp2
            go_round
            case rel => exact ⟨2, by omega, rfl, _, rfl, hn⟩
            case measure => simp [intOf]
          · have hn : Hid (fstK a b c 2 = y) := by have := hnew.out; rw [this, fst1, if_neg (by omega)]; rfl
            clear hnew
            go_wp2
            go_round
            case rel => exact ⟨2, by omega, rfl, _, rfl, hn⟩
            case measure => simp [intOf]
      · have hn : Hid (fstK a b c 2 = y) := by have := hnew.out; rw [this, fst1, if_neg (by omega)]; rfl
        clear hnew
        go_wp2
        go_round
        case rel => exact ⟨2, by omega, rfl, _, rfl, hn⟩
        case measure => simp [intOf]
    · have hnew : Hid (fstK a b c 3 = fst1 y c) := by have := hy.out; subst this; rfl
      clear hy
      by_cases h1 : 0 < c
      · by_cases h2 : y = 0
        · subst h2
          have hn : Hid (fstK a b c 3 = c) := by have := hnew.out; rw [this, fst1, if_pos ⟨h1, .inl rfl⟩]; rfl
          clear hnew
          go_wp2
          go_round
          case rel => exact ⟨3, by omega, rfl, _, rfl, hn⟩
          case measure => simp [intOf]
        · have h2' : (y == 0) = false := by simpa using h2
          by_cases h3 : c < y
          · have hn : Hid (fstK a b c 3 = c) := by have := hnew.out; rw [this, fst1, if_pos ⟨h1, .inr h3⟩]; rfl
            clear hnew
            go_wp2
            go_round
            case rel => exact ⟨3, by omega, rfl, _, rfl, hn⟩
            case measure => simp [intOf]
          · have hn : Hid (fstK a b c 3 = y) := by have := hnew.out; rw [this, fst1, if_neg (by omega)]; rfl
            clear hnew
            go_wp2
            go_round
            case rel => exact ⟨3, by omega, rfl, _, rfl, hn⟩
            case measure => simp [intOf]
      · have hn : Hid (fstK a b c 3 = y) := by have := hnew.out; rw [this, fst1, if_neg (by omega)]; rfl
        clear hnew
        go_wp2
        go_round
        case rel => exact ⟨3, by omega, rfl, _, rfl, hn⟩
        case measure => simp [intOf]
    · have hfin : Hid (y = fst3 a b c) := by have := hy.out; rw [← this]; rfl
      clear hy
      obtain ⟨l1, l2⟩ := H2.out
      clear H2
      have hyy := hfin.out
      subst hyy
      have heq := eq22_same
      go_wp2_with fail
      go_call same_any _ _ _ _ _ (l1.below (B := w2.heap.size) (by go_grown) (Nat.le_refl _)) (l2.below (B := w2.heap.size) (by go_grown) (Nat.le_refl _)) (by omega) as e w3 ⟨rfl, hbel3⟩
      simp only [decide_true]
      have hwh := heap_below hbel3 (heap_alloc_top (w2.alloc (.cells #[.int .i64 (dn 1 a), .int .i64 (dn 1 b), .int .i64 (dn 1 c)] 22)) _ (w2.heap.size + 1) (by simp)) (by simp)
      have hb3 : Below w.heap.size w w3 := ((hb2.alloc (by omega) _).alloc (by simp; omega) _).trans (hbel3.mono (by simp; omega))
      have g0 := cellOf hwh 0 (v := .int .i64 a) rfl
      have g1 := cellOf hwh 1 (v := .int .i64 b) rfl
      have g2 := cellOf hwh 2 (v := .int .i64 c) rfl
      have hz3 := ltOf hwh
      clear hwh hbel3 l1 l2 t0 t1 t2 x0 x1 x2
      go_wp2_with fail
      go_call first_any a b c _ as e w4 ⟨rfl, rfl⟩
      go_wp2_with fail
      go_call awake_any _ as e w5 ⟨rfl, hbel5⟩
      go_wp2
      go_ret
      exact ⟨rfl, (hb3.alloc (by omega) _).trans (hbel5.mono (by simp; omega))⟩
end Go.Proofs.Ytefnbmggokfanaa
