/- The law QueueNobody answers true, whatever the bytes and the number. -/
import Derived.Test.YtfcfckcpmjccoaaQA
namespace Go.Proofs.Ytfcfckcpmjccoaa
open Go.RowKit

theorem put_nil (a : Option Addr) (n c : Nat) (w : World) : Calls Try.prog 9 #[.pointer none, .slice a n c] w fun e w' => e = .returned (.int .i64 0) ∧ w = w' := by
  by_cases h0 : 0 < n
  · go_enter Try.func9, Try.ntmps9
    go_wp2_with (first | (go_at_call 22; refine (room_nil w).mono ?_; rintro e w1 ⟨rfl, rfl⟩))
    go_ret
    exact ⟨rfl, rfl⟩
  · obtain rfl : n = 0 := by omega
    go_enter Try.func9, Try.ntmps9
    go_wp2_with (first | (go_at_call 22; refine (room_nil w).mono ?_; rintro e w1 ⟨rfl, rfl⟩))
    go_ret
    exact ⟨rfl, rfl⟩
theorem bytes_nil (w : World) : Calls Try.prog 13 #[.pointer none] w fun e w' => ∃ a c, e = .returned (.slice a 0 c) ∧ Below w.heap.size w w' := by
  obtain ⟨i0, hi0, hz0, hz1, hz2⟩ := info_parts Try.info5
  go_enter Try.func13, Try.ntmps13
  go_wp2_with (first
    | (go_at_call 11; refine (len_nil w).mono ?_; rintro e w1 ⟨rfl, rfl⟩)
    | (refine wpList_make_full _ rfl (.tmp 5) (.tmp 5) 27 rfl w.heap.size 5 i0 (.int .u8 0) 1 Try.underlying27 hi0 hz0 hz1 .i64 .i64 0 0 0 rfl rfl rfl rfl (by omega) (by simp only [maxLen]; omega) (Nat.le_refl _) ?_
       intro w1 hown1 hg1
       have hB1 : Below w.heap.size w w1 := (Below.refl _ _).grown hg1 (Nat.le_refl _) (by intro g hg; cases hg)))
  go_ret
  exact ⟨_, _, rfl, by first | exact hB1 | go_grown⟩

set_option maxHeartbeats 2000000 in
theorem nobody_any (a : Option Addr) (m c : Nat) (n : Int) (w : World) : Calls Try.prog 6 #[.slice a m c, .int .i64 n] w fun e w' => e = .returned (.bool true) ∧ Below w.heap.size w w' := by
  by_cases hm : 1000 < m
  · go_enter Try.func6, Try.ntmps6
    go_wp2_with (first | (go_at_call 7; refine (awake_any _).mono ?_; rintro e w1 ⟨rfl, hB⟩))
    go_ret
    exact ⟨rfl, hB⟩
  · go_enter Try.func6, Try.ntmps6
    go_wp2_with (first
      | (go_at_call 10; refine (line_nil n _).mono ?_; rintro e w1 ⟨rfl, rfl⟩)
      | (go_at_call 9; refine (put_nil _ _ _ _).mono ?_; rintro e w1 ⟨rfl, rfl⟩)
      | (go_at_call 12; refine (take_nil n _).mono ?_; rintro e w1 ⟨rfl, rfl⟩)
      | (go_at_call 11; refine (len_nil _).mono ?_; rintro e w1 ⟨rfl, rfl⟩)
      | (go_at_call 22; refine (room_nil _).mono ?_; rintro e w1 ⟨rfl, rfl⟩)
      | (go_at_call 13; refine (bytes_nil _).mono ?_; rintro e w1 ⟨a', c', rfl, hB1⟩)
      | (go_at_call 20; refine (clear_nil _).mono ?_; rintro e w2 ⟨rfl, rfl⟩)
      | (go_at_call 7; refine (awake_any _).mono ?_; rintro e w3 ⟨rfl, hB⟩))
    go_ret
    exact ⟨rfl, hB1.trans (hB.mono hB1.size)⟩
end Go.Proofs.Ytfcfckcpmjccoaa
