/- Same of two lists of numbers: whether they are one list. First of a clock. -/
import Derived.Test.YtefnbmggokfanaaTick
import Derived.Deep.QuietTactic
namespace Go.Proofs.Ytefnbmggokfanaa
open Go.RowKit

theorem take_eq_succ {α : Type} {xs ys : List α} {k : Nat} (h : xs.take k = ys.take k) {x : α} (hx : xs[k]? = some x) (hy : ys[k]? = some x) : xs.take (k + 1) = ys.take (k + 1) := by
  rw [List.take_add_one, List.take_add_one, h, hx, hy]
theorem ints_at (xs : List Int) {j : Nat} (h : j < xs.length) : (xs.map (Value.int .i64)).getD j undef = .int .i64 (xs.getD j 0) := by
  simp [List.getD, h]
theorem getD_some {xs : List Int} {j : Nat} (h : j < xs.length) : xs[j]? = some (xs.getD j 0) := by
  simp [List.getD, h]

set_option maxHeartbeats 1000000 in
theorem same_len (n : Nat) (xs ys : List Int) (v u : Value) (w : World) (hxl : Hid (xs.length = n)) (hyl : Hid (ys.length = n)) (hv : RowAt w 1 v n (xs.map (Value.int .i64))) (hu : RowAt w 1 u n (ys.map (Value.int .i64))) (hn : n ≤ 1000000) :
    Calls Try.prog 13 #[v, u] w fun e w' => e = .returned (.bool (decide (xs = ys))) ∧ Below w.heap.size w w' := by
  obtain ⟨a1, cap1, rfl, h1⟩ := hv.open1
  obtain ⟨a2, cap2, rfl, h2⟩ := hu.open1
  have H1 := hidp h1
  have H2 := hidp h2
  clear h1 h2 hv hu
  go_enter Try.func13, Try.ntmps13
  go_wp2
  go_loopw [5] (fun i wr => ∃ k : Nat, k ≤ n ∧ i = .int .i64 k ∧ Hid (xs.take k = ys.take k) ∧ Below w.heap.size w wr) (fun i _ => n - (intOf i).toNat)
  case atStart => exact ⟨0, by omega, rfl, hidp (by simp), Below.refl _ _⟩
  case round =>
    obtain ⟨k, hk, rfl, heq, hbel⟩ := hrel
    by_cases hlt : k < n
    · obtain ⟨g1, o1, rfl, c1⟩ := H1.out (by omega)
      obtain ⟨g2, o2, rfl, c2⟩ := H2.out (by omega)
      have d1 := below_cell hbel (Nat.le_refl _) _ _ (c1 k hlt)
      have d2 := below_cell hbel (Nat.le_refl _) _ _ (c2 k hlt)
      rw [ints_at xs (by rw [hxl.out]; exact hlt)] at d1
      rw [ints_at ys (by rw [hyl.out]; exact hlt)] at d2
      obtain ⟨x, hx⟩ : ∃ x, x = xs.getD k 0 := ⟨_, rfl⟩
      obtain ⟨y, hy⟩ : ∃ y, y = ys.getD k 0 := ⟨_, rfl⟩
      rw [← hx] at d1
      rw [← hy] at d2
      have hX := hidp hx
      have hY := hidp hy
      clear c1 c2 hx hy H1 H2
      have l1 : (k : Int) < (n : Int) := by omega
      by_cases hxy : x = y
      · subst hxy
        have heq' := hidp (take_eq_succ heq.out (x := x) (by rw [hX.out]; exact getD_some (by rw [hxl.out]; exact hlt)) (by rw [hY.out]; exact getD_some (by rw [hyl.out]; exact hlt)))
        go_wp2
        go_quiet (fail)
        go_wp2
        go_roundw
        case rel => exact ⟨k + 1, by omega, by go_num, heq', below_drewN hbel _⟩
        case measure => simp [intOf]; omega
      · have hne : (x != y) = true := by simpa using hxy
        go_wp2
        have hd : decide (xs = ys) = false := by
          simp only [decide_eq_false_iff_not]
          intro e
          apply hxy
          rw [hX.out, hY.out, e]
        go_quiet (fail)
        go_wp2
        go_ret
        rw [hd]
        exact ⟨rfl, below_drewN hbel _⟩
    · have hd : decide (xs = ys) = true := by
        have := heq.out
        rw [List.take_of_length_le (by rw [hxl.out]; omega), List.take_of_length_le (by rw [hyl.out]; omega)] at this
        simpa using this
      go_wp2
      go_ret
      rw [hd]
      exact ⟨rfl, hbel⟩

set_option maxHeartbeats 1000000 in
theorem same_any (xs ys : List Int) (v u : Value) (w : World) (hv : RowAt w 1 v xs.length (xs.map (Value.int .i64))) (hu : RowAt w 1 u ys.length (ys.map (Value.int .i64))) (hy : ys.length ≤ 1000000) :
    Calls Try.prog 13 #[v, u] w fun e w' => e = .returned (.bool (decide (xs = ys))) ∧ Below w.heap.size w w' := by
  by_cases hl : xs.length = ys.length
  · exact same_len ys.length xs ys v u w hl rfl (by rw [← hl]; exact hv) hu hy
  · obtain ⟨a1, cap1, rfl, h1⟩ := hv.open1
    obtain ⟨a2, cap2, rfl, h2⟩ := hu.open1
    clear hv hu h1 h2
    have hne : ((xs.length : Int) != (ys.length : Int)) = true := by simp; omega
    have hd : decide (xs = ys) = false := by simp; intro h; exact hl (by rw [h])
    go_enter Try.func13, Try.ntmps13
    go_wp2
    go_ret
    rw [hd]
    exact ⟨rfl, by go_grown⟩

/-! First of a clock -/
def fst1 (f n : Int) : Int := if 0 < n ∧ (f = 0 ∨ n < f) then n else f
def fst3 (a b c : Int) : Int := fst1 (fst1 (fst1 0 a) b) c
def fstK (a b c : Int) (k : Nat) : Int := if k = 0 then 0 else if k = 1 then fst1 0 a else if k = 2 then fst1 (fst1 0 a) b else fst3 a b c

set_option maxHeartbeats 1000000 in
theorem first_any (a b c : Int) (w : World) : Calls Try.prog 14 #[.agg #[.int .i64 a, .int .i64 b, .int .i64 c]] w fun e w' => e = .returned (.int .i64 (fst3 a b c)) ∧ w.alloc (.cells #[.int .i64 a, .int .i64 b, .int .i64 c] 24) = w' := by
  have i0 : ∀ w, (Instr.index 22 (.agg #[.int .i64 a, .int .i64 b, .int .i64 c]) (.int .i64 0)).run Try.prog w = .ok (.int .i64 a) w := fun _ => by kernel_rfl
  have i1 : ∀ w, (Instr.index 22 (.agg #[.int .i64 a, .int .i64 b, .int .i64 c]) (.int .i64 1)).run Try.prog w = .ok (.int .i64 b) w := fun _ => by kernel_rfl
  have i2 : ∀ w, (Instr.index 22 (.agg #[.int .i64 a, .int .i64 b, .int .i64 c]) (.int .i64 2)).run Try.prog w = .ok (.int .i64 c) w := fun _ => by kernel_rfl
  go_enter Try.func14, Try.ntmps14
  go_wp2
  go_loop [3, 8] (fun f i => ∃ k : Nat, k ≤ 3 ∧ i = .int .i64 k ∧ ∃ y : Int, f = .int .i64 y ∧ Hid (fstK a b c k = y)) (fun _ i => 3 - (intOf i).toNat)
  case atStart => exact ⟨0, by omega, rfl, 0, rfl, rfl⟩
  case round =>
    obtain ⟨k, hk, rfl, y, rfl, hy⟩ := hrel
    obtain rfl | rfl | rfl | rfl : k = 0 ∨ k = 1 ∨ k = 2 ∨ k = 3 := by omega
    · have hnew : Hid (fstK a b c 1 = fst1 y a) := by have := hy.out; subst this; rfl
      clear hy
      by_cases h1 : 0 < a
      · by_cases h2 : y = 0
        · subst h2
          have hn : Hid (fstK a b c 1 = a) := by have := hnew.out; rw [this, fst1, if_pos ⟨h1, .inl rfl⟩]; rfl
          clear hnew
          go_wp2
          go_round
          case rel => exact ⟨1, by omega, rfl, _, rfl, hn⟩
          case measure => simp [intOf]
        · have h2' : (y == 0) = false := by simpa using h2
          by_cases h3 : a < y
          · have hn : Hid (fstK a b c 1 = a) := by have := hnew.out; rw [this, fst1, if_pos ⟨h1, .inr h3⟩]; rfl
            clear hnew
            go_wp2
            go_round
            case rel => exact ⟨1, by omega, rfl, _, rfl, hn⟩
            case measure => simp [intOf]
          · have hn : Hid (fstK a b c 1 = y) := by have := hnew.out; rw [this, fst1, if_neg (by omega)]; rfl
            clear hnew
            go_wp2
            go_round
            case rel => exact ⟨1, by omega, rfl, _, rfl, hn⟩
            case measure => simp [intOf]
      · have hn : Hid (fstK a b c 1 = y) := by have := hnew.out; rw [this, fst1, if_neg (by omega)]; rfl
        clear hnew
        go_wp2
        go_round
        case rel => exact ⟨1, by omega, rfl, _, rfl, hn⟩
        case measure => simp [intOf]
    · have hnew : Hid (fstK a b c 2 = fst1 y b) := by have := hy.out; subst this; rfl
      clear hy
      by_cases h1 : 0 < b
      · by_cases h2 : y = 0
        · subst h2
          have hn : Hid (fstK a b c 2 = b) := by have := hnew.out; rw [this, fst1, if_pos ⟨h1, .inl rfl⟩]; rfl
          clear hnew
          go_wp2
          go_round
          case rel => exact ⟨2, by omega, rfl, _, rfl, hn⟩
          case measure => simp [intOf]
        · have h2' : (y == 0) = false := by simpa using h2
          by_cases h3 : b < y
          · have hn : Hid (fstK a b c 2 = b) := by have := hnew.out; rw [this, fst1, if_pos ⟨h1, .inr h3⟩]; rfl
            clear hnew
            go_wp2
            go_round
            case rel => exact ⟨2, by omega, rfl, _, rfl, hn⟩
            case measure => simp [intOf]
          · have hn : Hid (fstK a b c 2 = y) := by have := hnew.out; rw [this, fst1, if_neg (by omega)]; rfl
            clear hnew
            go_wp2
            go_round
            case rel => exact ⟨2, by omega, rfl, _, rfl, hn⟩
            case measure => simp [intOf]
      · have hn : Hid (fstK a b c 2 = y) := by have := hnew.out; rw [this, fst1, if_neg (by omega)]; rfl
        clear hnew
        go_wp2
        go_round
        case rel => exact ⟨2, by omega, rfl, _, rfl, hn⟩
        case measure => simp [intOf]
    · have hnew : Hid (fstK a b c 3 = fst1 y c) := by have := hy.out; subst this; rfl
      clear hy
      by_cases h1 : 0 < c
      · by_cases h2 : y = 0
        · subst h2
          have hn : Hid (fstK a b c 3 = c) := by have := hnew.out; rw [this, fst1, if_pos ⟨h1, .inl rfl⟩]; rfl
          clear hnew
          go_wp2
          go_round
          case rel => exact ⟨3, by omega, rfl, _, rfl, hn⟩
          case measure => simp [intOf]
        · have h2' : (y == 0) = false := by simpa using h2
          by_cases h3 : c < y
          · have hn : Hid (fstK a b c 3 = c) := by have := hnew.out; rw [this, fst1, if_pos ⟨h1, .inr h3⟩]; rfl
            clear hnew
            go_wp2
            go_round
            case rel => exact ⟨3, by omega, rfl, _, rfl, hn⟩
            case measure => simp [intOf]
          · have hn : Hid (fstK a b c 3 = y) := by have := hnew.out; rw [this, fst1, if_neg (by omega)]; rfl
            clear hnew
            go_wp2
            go_round
            case rel => exact ⟨3, by omega, rfl, _, rfl, hn⟩
            case measure => simp [intOf]
      · have hn : Hid (fstK a b c 3 = y) := by have := hnew.out; rw [this, fst1, if_neg (by omega)]; rfl
        clear hnew
        go_wp2
        go_round
        case rel => exact ⟨3, by omega, rfl, _, rfl, hn⟩
        case measure => simp [intOf]
    · have hfin : Hid (y = fst3 a b c) := by have := hy.out; rw [← this]; rfl
      clear hy
      go_wp2
      go_ret
      rw [← hfin.out]
      exact ⟨rfl, rfl⟩

theorem fst1_nonneg {f n : Int} (h : 0 ≤ f) : 0 ≤ fst1 f n := by unfold fst1; split <;> omega
theorem fst3_nonneg (a b c : Int) : 0 ≤ fst3 a b c := fst1_nonneg (fst1_nonneg (fst1_nonneg (by omega)))
theorem fst1_le {f n m : Int} (h : f ≤ m) (hn : n ≤ m) : fst1 f n ≤ m := by unfold fst1; split <;> omega
theorem fst3_le (a b c m : Int) (h0 : 0 ≤ m) (ha : a ≤ m) (hb : b ≤ m) (hc : c ≤ m) : fst3 a b c ≤ m := fst1_le (fst1_le (fst1_le h0 ha) hb) hc
end Go.Proofs.Ytefnbmggokfanaa
