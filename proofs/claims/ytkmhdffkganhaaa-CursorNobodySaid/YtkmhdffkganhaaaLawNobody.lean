/- The law CursorNobody answers true, whatever the two numbers. -/
import Derived.Test.YtkmhdffkganhaaaCA
namespace Go.Proofs.Ytkmhdffkganhaaa
open Go.RowKit

set_option maxHeartbeats 4000000 in
theorem nobody_any (o n : Int) (w : World) : Calls Try.prog 6 #[.int .i64 o, .int .i64 n] w fun e w' => e = .returned (.bool true) ∧ Below w.heap.size w w' := by
  go_enter Try.func6, Try.ntmps6
  go_wp2_with fail
  refine (open_nil (cur0 o) w).mono ?_
  rintro e w1 ⟨rfl, hB1⟩
  go_wp2_with fail
  refine (get_nil o n w1).mono ?_
  rintro e w2 ⟨rfl, hB2⟩
  have HB2 := hidp (hB1.trans (hB2.mono hB1.size))
  clear hB1 hB2
  go_wp2_with (first
    | (with_reducible refine wpList_store_row rfl 34 (.tmp 8) (.tmp 24) rfl w2.heap.size zarr34 rfl rfl 34 _ (heap_alloc_new w2 _) Try.info34z rfl zarr_one ?_
       rw [World.setRow_alloc_new]
       have HB3 := hidp (HB2.out.alloc HB2.out.size (.cells zarr34 34))
       generalize w2.alloc (.cells zarr34 34) = w3 at HB3 ⊢)
    | (go_at_call 14
       refine (close_nil o n w3).mono ?_
       rintro e w4 ⟨rfl, hB4⟩
       have HB4 := hidp (HB3.out.trans (hB4.mono HB3.out.size))
       clear hB4)
    | (with_reducible refine wpList_store_row rfl 34 (.tmp 10) (.tmp 31) rfl w4.heap.size zarr34 rfl rfl 34 _ (heap_alloc_new w4 _) Try.info34z rfl zarr_one ?_
       rw [World.setRow_alloc_new]
       have HB5 := hidp (HB4.out.alloc HB4.out.size (.cells zarr34 34))
       generalize w4.alloc (.cells zarr34 34) = w5 at HB5 ⊢)
    | (go_at_call 10
       refine (move_nil o n 0 0 w5).mono ?_
       rintro e w6 ⟨rfl, hB6⟩
       have HB6 := hidp (HB5.out.trans (hB6.mono HB5.out.size))
       clear hB6)
    | (go_at_call 15
       refine (leave_nil o w6).mono ?_
       rintro e w7 ⟨rfl, hB7⟩
       have HB7 := hidp (HB6.out.trans (hB7.mono HB6.out.size))
       clear hB7)
    | (go_at_call 9
       refine (tick_nil w7).mono ?_
       rintro e w8 ⟨rfl, hB8⟩
       have HB8 := hidp (HB7.out.trans (hB8.mono HB7.out.size))
       clear hB8)
    | (go_at_call 16
       refine (len_nil w8).mono ?_
       rintro e w9 ⟨rfl, rfl⟩)
    | (go_at_call 12
       refine (awake_any w8).mono ?_
       rintro e w9 ⟨rfl, hB9⟩
       have HB9 := hidp (HB8.out.trans (hB9.mono HB8.out.size))
       clear hB9))
  go_ret
  exact ⟨rfl, HB9.out⟩
end Go.Proofs.Ytkmhdffkganhaaa
