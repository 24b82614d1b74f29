/- The law ClockSets answers true, whatever clock, time and number; no condition. -/
import Derived.Test.YtefnbmggokfanaaAwake
import Derived.Laws.StructEq
namespace Go.Proofs.Ytefnbmggokfanaa
open Go.RowKit

def sx (j i n x : Int) : Int := if i = j then max n 0 else x
theorem setV_agg (a b c i n : Int) : setV a b c i n = .agg #[.int .i64 (sx 0 i n a), .int .i64 (sx 1 i n b), .int .i64 (sx 2 i n c)] := by
  unfold setV sx
  by_cases h0 : i = 0
  · subst h0; simp
  · by_cases h1 : i = 1
    · subst h1; simp
    · by_cases h2 : i = 2
      · subst h2; simp
      · simp [h0, h1, h2]
theorem set_agg (a b c i n : Int) (w : World) :
    Calls Try.prog 7 #[.agg #[.int .i64 a, .int .i64 b, .int .i64 c], .int .i64 i, .int .i64 n] w fun e w' => e = .returned (.agg #[.int .i64 (sx 0 i n a), .int .i64 (sx 1 i n b), .int .i64 (sx 2 i n c)]) ∧ Below w.heap.size w w' :=
  (set_any a b c i n w).mono fun e w' ⟨he, hb⟩ => ⟨by rw [he, setV_agg], hb⟩
theorem rset_agg (a b c i n : Int) (w : World) :
    Calls Try.prog 8 #[.agg #[.int .i64 a, .int .i64 b, .int .i64 c], .int .i64 i, .int .i64 n] w fun e w' => e = .returned (.agg #[.int .i64 (sx 0 i n a), .int .i64 (sx 1 i n b), .int .i64 (sx 2 i n c)]) ∧ Below w.heap.size w w' :=
  (rset_any a b c i n w).mono fun e w' ⟨he, hb⟩ => ⟨by rw [he, setV_agg], hb⟩

theorem keep6 {W w1 : World} {p0 p1 p2 q0 q1 q2 : Addr} {a b c : Value} {w : World} (h : W.cell? p0 = some a ∧ W.cell? p1 = some b ∧ W.cell? p2 = some c ∧ W.cell? q0 = some a ∧ W.cell? q1 = some b ∧ W.cell? q2 = some c ∧ Below w.heap.size w W) (hb : Below W.heap.size W w1) :
    w1.cell? p0 = some a ∧ w1.cell? p1 = some b ∧ w1.cell? p2 = some c ∧ w1.cell? q0 = some a ∧ w1.cell? q1 = some b ∧ w1.cell? q2 = some c ∧ Below w.heap.size w w1 :=
  let k := below_cell hb (Nat.le_refl _)
  ⟨k _ _ h.1, k _ _ h.2.1, k _ _ h.2.2.1, k _ _ h.2.2.2.1, k _ _ h.2.2.2.2.1, k _ _ h.2.2.2.2.2.1, h.2.2.2.2.2.2.trans (hb.mono h.2.2.2.2.2.2.size)⟩

theorem eq22 (a b c a' b' c' : Int) (w : World) : (Op.equalIn 10000 22 (.agg #[.int .i64 a, .int .i64 b, .int .i64 c]) (.agg #[.int .i64 a', .int .i64 b', .int .i64 c'])).run Try.prog w = .ok (a == a' && b == b' && c == c') w := by
  have u3 := Try.underlying3
  have a3 := Try.isAgg3
  have z3 := Try.sizeOf3
  rw [show (10000 : Nat) = 9999 + 1 from rfl, Op.equalIn]
  simp only [Sem.run_bind, run_underlying Try.underlying22, Result.andThen_ok]
  simp only [Std.Legacy.Range.forIn_eq_forIn_range', Std.Legacy.Range.size, Nat.sub_zero, Nat.add_sub_cancel, Nat.div_one, List.range'_succ, List.range'_zero, List.forIn_cons, List.forIn_nil]
  go_simp
  by_cases h1 : a = a' <;> by_cases h2 : b = b' <;> by_cases h3 : c = c' <;> simp [h1, h2, h3]
theorem eq22_same (a b c : Int) (w : World) : (Op.equalIn 10000 22 (.agg #[.int .i64 a, .int .i64 b, .int .i64 c]) (.agg #[.int .i64 a, .int .i64 b, .int .i64 c])).run Try.prog w = .ok true w := by
  rw [eq22]; simp
theorem last6 {W : World} {p0 p1 p2 q0 q1 q2 : Addr} {a b c : Value} {w : World} (h : W.cell? p0 = some a ∧ W.cell? p1 = some b ∧ W.cell? p2 = some c ∧ W.cell? q0 = some a ∧ W.cell? q1 = some b ∧ W.cell? q2 = some c ∧ Below w.heap.size w W) : Below w.heap.size w W := h.2.2.2.2.2.2
set_option maxHeartbeats 4000000 in
theorem sets_0 (a b c n : Int) (w : World) :
    Calls Try.prog 3 #[.agg #[.int .i64 a, .int .i64 b, .int .i64 c], .int .i64 0, .int .i64 n] w fun e w' => e = .returned (.bool true) ∧ Below w.heap.size w w' := by
  have hr : ∀ w, Calls Try.prog 9 #[.agg #[.int .i64 a, .int .i64 b, .int .i64 c], .int .i64 0] w fun e w' => e = .returned (.bool (decide (0 < a))) ∧ Below w.heap.size w w' := fun w => runs_any a b c 0 w
  have HR := hidp hr
  clear hr
  have hfield : ∀ (x y z : Int) (w : World), (Instr.field 24 (.agg #[.int .i64 x, .int .i64 y, .int .i64 z]) 0).run Try.prog w = .ok (.agg #[.int .i64 x, .int .i64 y, .int .i64 z]) w := fun _ _ _ _ => by kernel_rfl
  have heq := eq22_same
  go_enter Try.func3, Try.ntmps3
  go_wp2
  go_region_held3 (fun w' => w'.cell? ⟨w.heap.size, 0, none⟩ = some (.int .i64 a) ∧ w'.cell? ⟨w.heap.size, 1, none⟩ = some (.int .i64 b) ∧ w'.cell? ⟨w.heap.size, 2, none⟩ = some (.int .i64 c) ∧ w'.cell? ⟨w.heap.size + 1, 0, none⟩ = some (.int .i64 a) ∧ w'.cell? ⟨w.heap.size + 1, 1, none⟩ = some (.int .i64 b) ∧ w'.cell? ⟨w.heap.size + 1, 2, none⟩ = some (.int .i64 c) ∧ Below w.heap.size w w') (first | exact keep6 (by assumption) (by assumption) | (refine ⟨by simp [go_sem], by simp [go_sem], by simp [go_sem], by simp [go_sem], by simp [go_sem], by simp [go_sem], ?_⟩; go_grown))
    (first | (go_at_call 7; refine (set_agg _ _ _ _ _ _).mono ?_; rintro e w' ⟨rfl, hb⟩) | (go_at_call 8; refine (rset_agg _ _ _ _ _ _).mono ?_; rintro e w' ⟨rfl, hb⟩) | (go_at_call 9; refine (HR.out _).mono ?_; rintro e w' ⟨rfl, hb⟩) | (go_at_call 10; refine (awake_any _).mono ?_; rintro e w' ⟨rfl, hb⟩))
  go_wp2
  go_ret
  exact ⟨rfl, last6 (by assumption)⟩

set_option maxHeartbeats 4000000 in
theorem sets_1 (a b c n : Int) (w : World) :
    Calls Try.prog 3 #[.agg #[.int .i64 a, .int .i64 b, .int .i64 c], .int .i64 1, .int .i64 n] w fun e w' => e = .returned (.bool true) ∧ Below w.heap.size w w' := by
  have hr : ∀ w, Calls Try.prog 9 #[.agg #[.int .i64 a, .int .i64 b, .int .i64 c], .int .i64 1] w fun e w' => e = .returned (.bool (decide (0 < b))) ∧ Below w.heap.size w w' := fun w => runs_any a b c 1 w
  have HR := hidp hr
  clear hr
  have hfield : ∀ (x y z : Int) (w : World), (Instr.field 24 (.agg #[.int .i64 x, .int .i64 y, .int .i64 z]) 0).run Try.prog w = .ok (.agg #[.int .i64 x, .int .i64 y, .int .i64 z]) w := fun _ _ _ _ => by kernel_rfl
  have heq := eq22_same
  go_enter Try.func3, Try.ntmps3
  go_wp2
  go_region_held3 (fun w' => w'.cell? ⟨w.heap.size, 0, none⟩ = some (.int .i64 a) ∧ w'.cell? ⟨w.heap.size, 1, none⟩ = some (.int .i64 b) ∧ w'.cell? ⟨w.heap.size, 2, none⟩ = some (.int .i64 c) ∧ w'.cell? ⟨w.heap.size + 1, 0, none⟩ = some (.int .i64 a) ∧ w'.cell? ⟨w.heap.size + 1, 1, none⟩ = some (.int .i64 b) ∧ w'.cell? ⟨w.heap.size + 1, 2, none⟩ = some (.int .i64 c) ∧ Below w.heap.size w w') (first | exact keep6 (by assumption) (by assumption) | (refine ⟨by simp [go_sem], by simp [go_sem], by simp [go_sem], by simp [go_sem], by simp [go_sem], by simp [go_sem], ?_⟩; go_grown))
    (first | (go_at_call 7; refine (set_agg _ _ _ _ _ _).mono ?_; rintro e w' ⟨rfl, hb⟩) | (go_at_call 8; refine (rset_agg _ _ _ _ _ _).mono ?_; rintro e w' ⟨rfl, hb⟩) | (go_at_call 9; refine (HR.out _).mono ?_; rintro e w' ⟨rfl, hb⟩) | (go_at_call 10; refine (awake_any _).mono ?_; rintro e w' ⟨rfl, hb⟩))
  go_wp2
  go_ret
  exact ⟨rfl, last6 (by assumption)⟩

set_option maxHeartbeats 4000000 in
theorem sets_2 (a b c n : Int) (w : World) :
    Calls Try.prog 3 #[.agg #[.int .i64 a, .int .i64 b, .int .i64 c], .int .i64 2, .int .i64 n] w fun e w' => e = .returned (.bool true) ∧ Below w.heap.size w w' := by
  have hr : ∀ w, Calls Try.prog 9 #[.agg #[.int .i64 a, .int .i64 b, .int .i64 c], .int .i64 2] w fun e w' => e = .returned (.bool (decide (0 < c))) ∧ Below w.heap.size w w' := fun w => runs_any a b c 2 w
  have HR := hidp hr
  clear hr
  have hfield : ∀ (x y z : Int) (w : World), (Instr.field 24 (.agg #[.int .i64 x, .int .i64 y, .int .i64 z]) 0).run Try.prog w = .ok (.agg #[.int .i64 x, .int .i64 y, .int .i64 z]) w := fun _ _ _ _ => by kernel_rfl
  have heq := eq22_same
  go_enter Try.func3, Try.ntmps3
  go_wp2
  go_region_held3 (fun w' => w'.cell? ⟨w.heap.size, 0, none⟩ = some (.int .i64 a) ∧ w'.cell? ⟨w.heap.size, 1, none⟩ = some (.int .i64 b) ∧ w'.cell? ⟨w.heap.size, 2, none⟩ = some (.int .i64 c) ∧ w'.cell? ⟨w.heap.size + 1, 0, none⟩ = some (.int .i64 a) ∧ w'.cell? ⟨w.heap.size + 1, 1, none⟩ = some (.int .i64 b) ∧ w'.cell? ⟨w.heap.size + 1, 2, none⟩ = some (.int .i64 c) ∧ Below w.heap.size w w') (first | exact keep6 (by assumption) (by assumption) | (refine ⟨by simp [go_sem], by simp [go_sem], by simp [go_sem], by simp [go_sem], by simp [go_sem], by simp [go_sem], ?_⟩; go_grown))
    (first | (go_at_call 7; refine (set_agg _ _ _ _ _ _).mono ?_; rintro e w' ⟨rfl, hb⟩) | (go_at_call 8; refine (rset_agg _ _ _ _ _ _).mono ?_; rintro e w' ⟨rfl, hb⟩) | (go_at_call 9; refine (HR.out _).mono ?_; rintro e w' ⟨rfl, hb⟩) | (go_at_call 10; refine (awake_any _).mono ?_; rintro e w' ⟨rfl, hb⟩))
  go_wp2
  go_ret
  exact ⟨rfl, last6 (by assumption)⟩

set_option maxHeartbeats 4000000 in
theorem sets_neg (a b c i n : Int) (w : World) (hi : i < 0) :
    Calls Try.prog 3 #[.agg #[.int .i64 a, .int .i64 b, .int .i64 c], .int .i64 i, .int .i64 n] w fun e w' => e = .returned (.bool true) ∧ Below w.heap.size w w' := by
  have hr : ∀ w, Calls Try.prog 9 #[.agg #[.int .i64 a, .int .i64 b, .int .i64 c], .int .i64 i] w fun e w' => e = .returned (.bool false) ∧ Below w.heap.size w w' := fun w => by have h := runs_any a b c i w; rwa [runsB_no (by simp [isB]; omega)] at h
  have HR := hidp hr
  clear hr
  have hfield : ∀ (x y z : Int) (w : World), (Instr.field 24 (.agg #[.int .i64 x, .int .i64 y, .int .i64 z]) 0).run Try.prog w = .ok (.agg #[.int .i64 x, .int .i64 y, .int .i64 z]) w := fun _ _ _ _ => by kernel_rfl
  have heq := eq22_same
  go_enter Try.func3, Try.ntmps3
  go_wp2
  go_region_held3 (fun w' => w'.cell? ⟨w.heap.size, 0, none⟩ = some (.int .i64 a) ∧ w'.cell? ⟨w.heap.size, 1, none⟩ = some (.int .i64 b) ∧ w'.cell? ⟨w.heap.size, 2, none⟩ = some (.int .i64 c) ∧ w'.cell? ⟨w.heap.size + 1, 0, none⟩ = some (.int .i64 a) ∧ w'.cell? ⟨w.heap.size + 1, 1, none⟩ = some (.int .i64 b) ∧ w'.cell? ⟨w.heap.size + 1, 2, none⟩ = some (.int .i64 c) ∧ Below w.heap.size w w') (first | exact keep6 (by assumption) (by assumption) | (refine ⟨by simp [go_sem], by simp [go_sem], by simp [go_sem], by simp [go_sem], by simp [go_sem], by simp [go_sem], ?_⟩; go_grown))
    (first | (go_at_call 7; refine (set_agg _ _ _ _ _ _).mono ?_; rintro e w' ⟨rfl, hb⟩) | (go_at_call 8; refine (rset_agg _ _ _ _ _ _).mono ?_; rintro e w' ⟨rfl, hb⟩) | (go_at_call 9; refine (HR.out _).mono ?_; rintro e w' ⟨rfl, hb⟩) | (go_at_call 10; refine (awake_any _).mono ?_; rintro e w' ⟨rfl, hb⟩))
  go_wp2
  go_ret
  exact ⟨rfl, last6 (by assumption)⟩

set_option maxHeartbeats 4000000 in
theorem sets_big (a b c i n : Int) (w : World) (hi : 3 ≤ i) :
    Calls Try.prog 3 #[.agg #[.int .i64 a, .int .i64 b, .int .i64 c], .int .i64 i, .int .i64 n] w fun e w' => e = .returned (.bool true) ∧ Below w.heap.size w w' := by
  have hr : ∀ w, Calls Try.prog 9 #[.agg #[.int .i64 a, .int .i64 b, .int .i64 c], .int .i64 i] w fun e w' => e = .returned (.bool false) ∧ Below w.heap.size w w' := fun w => by have h := runs_any a b c i w; rwa [runsB_no (by simp [isB]; omega)] at h
  have HR := hidp hr
  clear hr
  have hfield : ∀ (x y z : Int) (w : World), (Instr.field 24 (.agg #[.int .i64 x, .int .i64 y, .int .i64 z]) 0).run Try.prog w = .ok (.agg #[.int .i64 x, .int .i64 y, .int .i64 z]) w := fun _ _ _ _ => by kernel_rfl
  have heq := eq22_same
  go_enter Try.func3, Try.ntmps3
  go_wp2
  go_region_held3 (fun w' => w'.cell? ⟨w.heap.size, 0, none⟩ = some (.int .i64 a) ∧ w'.cell? ⟨w.heap.size, 1, none⟩ = some (.int .i64 b) ∧ w'.cell? ⟨w.heap.size, 2, none⟩ = some (.int .i64 c) ∧ w'.cell? ⟨w.heap.size + 1, 0, none⟩ = some (.int .i64 a) ∧ w'.cell? ⟨w.heap.size + 1, 1, none⟩ = some (.int .i64 b) ∧ w'.cell? ⟨w.heap.size + 1, 2, none⟩ = some (.int .i64 c) ∧ Below w.heap.size w w') (first | exact keep6 (by assumption) (by assumption) | (refine ⟨by simp [go_sem], by simp [go_sem], by simp [go_sem], by simp [go_sem], by simp [go_sem], by simp [go_sem], ?_⟩; go_grown))
    (first | (go_at_call 7; refine (set_agg _ _ _ _ _ _).mono ?_; rintro e w' ⟨rfl, hb⟩) | (go_at_call 8; refine (rset_agg _ _ _ _ _ _).mono ?_; rintro e w' ⟨rfl, hb⟩) | (go_at_call 9; refine (HR.out _).mono ?_; rintro e w' ⟨rfl, hb⟩) | (go_at_call 10; refine (awake_any _).mono ?_; rintro e w' ⟨rfl, hb⟩))
  go_wp2
  go_ret
  exact ⟨rfl, last6 (by assumption)⟩

theorem sets_any (a b c i n : Int) (w : World) :
    Calls Try.prog 3 #[.agg #[.int .i64 a, .int .i64 b, .int .i64 c], .int .i64 i, .int .i64 n] w fun e w' => e = .returned (.bool true) ∧ Below w.heap.size w w' := by
  rcases (by omega : i = 0 ∨ i = 1 ∨ i = 2 ∨ i < 0 ∨ 3 ≤ i) with rfl | rfl | rfl | h | h
  · exact sets_0 a b c n w
  · exact sets_1 a b c n w
  · exact sets_2 a b c n w
  · exact sets_neg a b c i n w h
  · exact sets_big a b c i n w h
end Go.Proofs.Ytefnbmggokfanaa
