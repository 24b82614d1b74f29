/- Set of a clock and of the reference; which times run. -/
import Derived.Test.YtefnbmggokfanaaRows
import Derived.Test.YtefnbmggokfanaaBase
namespace Go.Proofs.Ytefnbmggokfanaa
open Go.RowKit

def isB (i : Int) : Bool := decide (0 ≤ i) && decide (i < 3)

set_option maxHeartbeats 400000 in
theorem is_any (a b c i : Int) (w : World) :
    Calls Try.prog 17 #[.agg #[.int .i64 a, .int .i64 b, .int .i64 c], .int .i64 i] w fun e w' => e = .returned (.bool (isB i)) ∧ w.alloc (.cells #[.int .i64 a, .int .i64 b, .int .i64 c] 24) = w' := by
  by_cases h0 : 0 ≤ i
  · by_cases h3 : i < 3
    · go_enter Try.func17, Try.ntmps17
      go_wp2
      go_ret
      simp [isB, *]
    · go_enter Try.func17, Try.ntmps17
      go_wp2
      go_ret
      simp [isB, *]
  · go_enter Try.func17, Try.ntmps17
    go_wp2
    go_ret
    simp [isB]; omega

theorem isB_yes {i : Int} (h : isB i = true) : i = 0 ∨ i = 1 ∨ i = 2 := by simp [isB] at h; omega

def runsB (a b c i : Int) : Bool := if i = 0 then decide (0 < a) else if i = 1 then decide (0 < b) else if i = 2 then decide (0 < c) else false

theorem runsB_no {a b c i : Int} (h : isB i = false) : runsB a b c i = false := by
  simp [isB] at h
  unfold runsB
  rw [if_neg (by omega), if_neg (by omega), if_neg (by omega)]
set_option maxHeartbeats 400000 in
theorem runs_any (a b c i : Int) (w : World) :
    Calls Try.prog 9 #[.agg #[.int .i64 a, .int .i64 b, .int .i64 c], .int .i64 i] w fun e w' => e = .returned (.bool (runsB a b c i)) ∧ Below w.heap.size w w' := by
  by_cases hi : isB i = true
  · rcases isB_yes hi with rfl | rfl | rfl
    all_goals
      go_enter Try.func9, Try.ntmps9
      go_wp2_with (go_at_call 17; refine (is_any _ _ _ _ _).mono ?_; rintro e w' ⟨rfl, rfl⟩)
      go_ret
      refine ⟨by simp [runsB], ?_⟩
      exact ((Below.refl _ _).alloc (Nat.le_refl _) _).alloc (by simp) _
  · have hi' : isB i = false := by simpa using hi
    go_enter Try.func9, Try.ntmps9
    go_wp2_with (go_at_call 17; refine (is_any _ _ _ _ _).mono ?_; rintro e w' ⟨rfl, rfl⟩)
    go_ret
    rw [runsB_no hi']; refine ⟨rfl, ?_⟩
    exact ((Below.refl _ _).alloc (Nat.le_refl _) _).alloc (by simp) _
theorem isB_no {i : Int} (h : isB i = false) : i ≠ 0 ∧ i ≠ 1 ∧ i ≠ 2 := by simp [isB] at h; omega

def setV (a b c i n : Int) : Value :=
  if i = 0 then .agg #[.int .i64 (max n 0), .int .i64 b, .int .i64 c] else if i = 1 then .agg #[.int .i64 a, .int .i64 (max n 0), .int .i64 c] else if i = 2 then .agg #[.int .i64 a, .int .i64 b, .int .i64 (max n 0)] else .agg #[.int .i64 a, .int .i64 b, .int .i64 c]

theorem setV_no {a b c i n : Int} (h : isB i = false) : setV a b c i n = .agg #[.int .i64 a, .int .i64 b, .int .i64 c] := by
  obtain ⟨h0, h1, h2⟩ := isB_no h
  unfold setV; rw [if_neg h0, if_neg h1, if_neg h2]

set_option maxHeartbeats 400000 in
theorem set_any (a b c i n : Int) (w : World) :
    Calls Try.prog 7 #[.agg #[.int .i64 a, .int .i64 b, .int .i64 c], .int .i64 i, .int .i64 n] w fun e w' => e = .returned (setV a b c i n) ∧ Below w.heap.size w w' := by
  by_cases hi : isB i = true
  · rcases isB_yes hi with rfl | rfl | rfl
    all_goals
      go_enter Try.func7, Try.ntmps7
      go_wp2_with (go_call is_any _ _ _ _ _ as e w' ⟨rfl, rfl⟩)
      all_goals
        refine bodyPost_ret (v := setV a b c _ n) (by simp [results, Try.results7, go_sem, setV]; omega) rfl ⟨rfl, ?_⟩
        go_grown
  · have hi' : isB i = false := by simpa using hi
    have hv : Hid (setV a b c i n = .agg #[.int .i64 a, .int .i64 b, .int .i64 c]) := setV_no hi'
    go_enter Try.func7, Try.ntmps7
    go_wp2_with (go_call is_any _ _ _ _ _ as e w' ⟨rfl, rfl⟩)
    refine bodyPost_ret (v := setV a b c i n) (by rw [hv.out]; simp [results, Try.results7, go_sem]) rfl ⟨rfl, ?_⟩
    go_grown

set_option maxHeartbeats 1000000 in
theorem rset_any (a b c i n : Int) (w : World) :
    Calls Try.prog 8 #[.agg #[.int .i64 a, .int .i64 b, .int .i64 c], .int .i64 i, .int .i64 n] w fun e w' => e = .returned (setV a b c i n) ∧ Below w.heap.size w w' := by
  have hcase : i = 0 ∨ i = 1 ∨ i = 2 ∨ isB i = false := by
    cases h : isB i
    · simp
    · rcases isB_yes h with h | h | h <;> simp [h]
  rcases hcase with rfl | rfl | rfl | hi
  · by_cases hn : n < 0
    all_goals
      go_enter Try.func8, Try.ntmps8
      go_wp2
      go_rounds 4
      refine bodyPost_ret (v := setV a b c _ n) (by simp [results, Try.results8, go_sem, setV]; omega) rfl ⟨rfl, ?_⟩
      go_grown
  · by_cases hn : n < 0
    all_goals
      go_enter Try.func8, Try.ntmps8
      go_wp2
      go_rounds 4
      refine bodyPost_ret (v := setV a b c _ n) (by simp [results, Try.results8, go_sem, setV]; omega) rfl ⟨rfl, ?_⟩
      go_grown
  · by_cases hn : n < 0
    all_goals
      go_enter Try.func8, Try.ntmps8
      go_wp2
      go_rounds 4
      refine bodyPost_ret (v := setV a b c _ n) (by simp [results, Try.results8, go_sem, setV]; omega) rfl ⟨rfl, ?_⟩
      go_grown
  · have hv : Hid (setV a b c i n = .agg #[.int .i64 a, .int .i64 b, .int .i64 c]) := setV_no hi
    obtain ⟨h0, h1, h2⟩ := isB_no hi
    have g0 : ((0 : Int) == i) = false := by simp; omega
    have g1 : ((1 : Int) == i) = false := by simp; omega
    have g2 : ((2 : Int) == i) = false := by simp; omega
    go_enter Try.func8, Try.ntmps8
    go_wp2
    go_rounds 4
    refine bodyPost_ret (v := setV a b c i n) (by rw [hv.out]; simp [results, Try.results8, go_sem]) rfl ⟨rfl, ?_⟩
    go_grown
end Go.Proofs.Ytefnbmggokfanaa
