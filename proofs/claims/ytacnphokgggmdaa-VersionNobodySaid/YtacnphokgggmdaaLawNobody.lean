/- The law VersionNobody answers true, whatever the two numbers. -/
import Derived.Test.YtacnphokgggmdaaVI
import Derived.Test.YtacnphokgggmdaaAwake
namespace Go.Proofs.Ytacnphokgggmdaa
open Go.RowKit

def NotMade (p : Value) (w : World) : Prop := Calls Try.prog 22 #[p] w fun e w' => e = .returned (.bool false) ∧ w = w'

theorem no_commit (p : Value) (x : Value) (w : World) (h : NotMade p w) : Calls Try.prog 8 #[p, x] w fun e w' => e = .returned (.int .i64 0) ∧ w = w' := by
  go_enter Try.func8, Try.ntmps8
  go_wp2_with fail
  refine Calls.mono h ?_
  rintro e w' ⟨rfl, rfl⟩
  go_wp2
  go_ret
  exact ⟨rfl, rfl⟩
theorem no_head (p : Value) (w : World) (h : NotMade p w) : Calls Try.prog 20 #[p] w fun e w' => e = .returned (.tuple #[.int .i64 0, .int .i64 0]) ∧ w = w' := by
  go_enter Try.func20, Try.ntmps20
  go_wp2_with fail
  refine Calls.mono h ?_
  rintro e w' ⟨rfl, rfl⟩
  go_wp2
  go_ret2
  exact ⟨rfl, rfl⟩
theorem no_pin (p : Value) (w : World) (h : NotMade p w) : Calls Try.prog 9 #[p] w fun e w' => e = .returned (.int .i64 0) ∧ w = w' := by
  go_enter Try.func9, Try.ntmps9
  go_wp2_with fail
  refine Calls.mono h ?_
  rintro e w' ⟨rfl, rfl⟩
  go_wp2
  go_ret
  exact ⟨rfl, rfl⟩
theorem no_pins (p : Value) (k : Int) (w : World) (h : NotMade p w) : Calls Try.prog 13 #[p, .int .i64 k] w fun e w' => e = .returned (.int .i64 0) ∧ w = w' := by
  go_enter Try.func13, Try.ntmps13
  go_wp2_with fail
  refine Calls.mono h ?_
  rintro e w' ⟨rfl, rfl⟩
  go_wp2
  go_ret
  exact ⟨rfl, rfl⟩
theorem no_release (p : Value) (k : Int) (w : World) (h : NotMade p w) : Calls Try.prog 10 #[p, .int .i64 k] w fun e w' => e = .returned (.bool false) ∧ w = w' := by
  go_enter Try.func10, Try.ntmps10
  go_wp2_with fail
  refine (no_pins p k w h).mono ?_
  rintro e w' ⟨rfl, rfl⟩
  go_wp2
  go_ret
  exact ⟨rfl, rfl⟩
theorem no_at (p : Value) (k : Int) (w : World) (h : NotMade p w) : Calls Try.prog 12 #[p, .int .i64 k] w fun e w' => e = .returned (.tuple #[.int .i64 0, .bool false]) ∧ w = w' := by
  go_enter Try.func12, Try.ntmps12
  go_wp2_with fail
  refine Calls.mono h ?_
  rintro e w' ⟨rfl, rfl⟩
  go_wp2
  go_ret2
  exact ⟨rfl, rfl⟩
theorem no_live (p : Value) (w : World) (h : NotMade p w) : Calls Try.prog 11 #[p] w fun e w' => e = .returned (.int .i64 0) ∧ w = w' := by
  go_enter Try.func11, Try.ntmps11
  go_wp2_with fail
  refine Calls.mono h ?_
  rintro e w' ⟨rfl, rfl⟩
  go_wp2
  go_ret
  exact ⟨rfl, rfl⟩

set_option maxHeartbeats 2000000 in
set_option maxRecDepth 100000 in
theorem nobody_any (n k : Int) (w : World) : Calls Try.prog 6 #[.int .i64 n, .int .i64 k] w fun e w' => e = .returned (.bool true) ∧ Below w.heap.size w w' := by
  go_enter Try.func6, Try.ntmps6
  go_wp2
  have h0 := heap_alloc_at (heap_alloc_new w (.cells #[.int .i64 0, .map none] 45)) (.cells #[.pointer none, .pointer (some ⟨w.heap.size, 0, none⟩)] 23)
  have h1 := heap_alloc_top (w.alloc (.cells #[.int .i64 0, .map none] 45)) (.cells #[.pointer none, .pointer (some ⟨w.heap.size, 0, none⟩)] 23) (w.heap.size + 1) (by simp)
  have hb : Below w.heap.size w ((w.alloc (.cells #[.int .i64 0, .map none] 45)).alloc (.cells #[.pointer none, .pointer (some ⟨w.heap.size, 0, none⟩)] 23)) := by go_grown
  generalize ((w.alloc (.cells #[.int .i64 0, .map none] 45)).alloc (.cells #[.pointer none, .pointer (some ⟨w.heap.size, 0, none⟩)] 23)) = W at *
  have c0 := cellOf h1 0 (v := .pointer none) rfl
  have c1 := cellOf h1 1 (v := .pointer (some ⟨w.heap.size, 0, none⟩)) rfl
  have N0 : Hid (NotMade (.pointer none) W) := I.made_nil W
  have N1 : Hid (NotMade (.pointer (some ⟨w.heap.size, 0, none⟩)) W) := I.made_empty _ W h0
  clear h0 h1
  go_loop [6] (fun i => ∃ j : Nat, j ≤ 2 ∧ i = .int .i64 j) (fun i => 2 - (intOf i).toNat)
  case atStart => exact ⟨0, by omega, rfl⟩
  case round =>
    obtain ⟨j, hj, rfl⟩ := hrel
    obtain rfl | rfl | rfl : j = 0 ∨ j = 1 ∨ j = 2 := by omega
    · have hN := N0
      go_wp2_with (first | (go_at_call 20; refine (no_head _ _ hN.out).mono ?_; rintro e w' ⟨rfl, rfl⟩) | (go_at_call 12; refine (no_at _ _ _ hN.out).mono ?_; rintro e w' ⟨rfl, rfl⟩) | (go_at_call 8; refine (no_commit _ _ _ hN.out).mono ?_; rintro e w' ⟨rfl, rfl⟩) | (go_at_call 9; refine (no_pin _ _ hN.out).mono ?_; rintro e w' ⟨rfl, rfl⟩) | (go_at_call 10; refine (no_release _ _ _ hN.out).mono ?_; rintro e w' ⟨rfl, rfl⟩) | (go_at_call 13; refine (no_pins _ _ _ hN.out).mono ?_; rintro e w' ⟨rfl, rfl⟩) | (go_at_call 11; refine (no_live _ _ hN.out).mono ?_; rintro e w' ⟨rfl, rfl⟩))
      go_round
      case rel => exact ⟨1, by omega, rfl⟩
      case measure => simp [intOf]
    · have hN := N1
      go_wp2_with (first | (go_at_call 20; refine (no_head _ _ hN.out).mono ?_; rintro e w' ⟨rfl, rfl⟩) | (go_at_call 12; refine (no_at _ _ _ hN.out).mono ?_; rintro e w' ⟨rfl, rfl⟩) | (go_at_call 8; refine (no_commit _ _ _ hN.out).mono ?_; rintro e w' ⟨rfl, rfl⟩) | (go_at_call 9; refine (no_pin _ _ hN.out).mono ?_; rintro e w' ⟨rfl, rfl⟩) | (go_at_call 10; refine (no_release _ _ _ hN.out).mono ?_; rintro e w' ⟨rfl, rfl⟩) | (go_at_call 13; refine (no_pins _ _ _ hN.out).mono ?_; rintro e w' ⟨rfl, rfl⟩) | (go_at_call 11; refine (no_live _ _ hN.out).mono ?_; rintro e w' ⟨rfl, rfl⟩))
      go_round
      case rel => exact ⟨2, by omega, rfl⟩
      case measure => simp [intOf]
    · go_wp2_with fail
      refine (awake_any _).mono ?_
      rintro e w' ⟨rfl, hb'⟩
      go_wp2
      go_ret
      exact ⟨rfl, hb.trans (hb'.mono hb.size)⟩
end Go.Proofs.Ytacnphokgggmdaa
