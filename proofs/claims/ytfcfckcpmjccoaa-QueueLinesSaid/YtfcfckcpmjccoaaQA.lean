/- The law's own example answers true. -/
import Derived.Test.YtfcfckcpmjccoaaQI2
import Derived.Laws.BytesArg
import Derived.Lib.SlBytesConst
namespace Go.Proofs.Ytfcfckcpmjccoaa
open Go.RowKit

theorem str_of {w : World} {base : Nat} {v : Value} {xs : List Int} (h : OwnMid w base 5 v xs.length (xs.map (Value.int .u8))) : (convert 27 9 v).run Try.prog w = .ok (.string (strOfNums xs)) w := by
  rcases h.2 with ⟨rfl, h0⟩ | ⟨g, off, cap, cur, rfl, _⟩
  · obtain rfl : xs = [] := List.eq_nil_of_length_eq_zero h0
    exact run_convert_bytes_nil w 27 5 Try.underlying27 Try.underlying5 0 0 9 Try.underlying9
  · exact run_convert_bytes_arg w 27 5 Try.underlying27 Try.underlying5 g off xs.length cap xs rfl (fun i hi => by
      rw [OwnMid.cell h i (.int .u8 xs[i]) (by simp [hi])]
      simp [List.getD, hi]) 9 Try.underlying9

theorem conv27 (C : Array Value) (n : Nat) (w : World) : (convert 27 27 (.slice (some ⟨w.heap.size, 0, none⟩) n n)).run Try.prog (w.alloc (.cells C 5)) = .ok (.slice (some ⟨w.heap.size, 0, none⟩) n n) (w.alloc (.cells C 5 (C.size, C.size + 1))) :=
  Lib.run_convert_bytes_const w 27 5 C n n Try.underlying27 Try.underlying5

set_option maxHeartbeats 2000000 in
theorem awake_any (w : World) : Calls Try.prog 7 #[] w fun e w' => e = .returned (.bool true) ∧ Below w.heap.size w w' := by
  have hcv := conv27 #[.int .u8 97, .int .u8 98, .int .u8 10, .int .u8 99] 4
  have hst : (strOfNums [97, 98]).toList = [97, 98] := by decide +kernel
  go_enter Try.func7, Try.ntmps7
  go_wp2_with fail
  refine (new_any 9 w).mono ?_
  rintro e w1 ⟨b, rfl, Q1, hB1⟩
  have H1 := hidp Q1
  have hbw := Q1.hb
  have hblt := ltOf Q1.blk
  clear Q1
  go_wp2_with fail
  have hal := heap_alloc_new w1 (.cells #[.int .u8 97, .int .u8 98, .int .u8 10, .int .u8 99] 5 (4, 5))
  have hBa : Below w1.heap.size w1 (w1.alloc (.cells #[.int .u8 97, .int .u8 98, .int .u8 10, .int .u8 99] 5 (4, 5))) := (Below.refl _ _).alloc (Nat.le_refl _) _
  generalize (w1.alloc (.cells #[.int .u8 97, .int .u8 98, .int .u8 10, .int .u8 99] 5 (4, 5))) = w2 at *
  have hB2 := hB1.trans (hBa.mono hB1.size)
  have Q2 := hidp (H1.out.below hBa (Nat.le_refl _))
  refine (put_pos w.heap.size b _ [] _ false (some ⟨w1.heap.size, 0, none⟩) 4 [97, 98, 10, 99] w2 Q2.out ⟨by decide, fun _ => ⟨_, rfl, ?_⟩⟩ (by decide) 4 rfl (by decide)).mono ?_
  · intro j u hu
    have e : ((⟨w1.heap.size, 0, none⟩ : Addr).add j) = ⟨w1.heap.size, 0 + j, none⟩ := by unfold Addr.add; split <;> simp_all
    rw [e]
    exact cellOf hal _ (by simpa using hu)
  rintro e w3 ⟨rfl, ⟨v3, Q3⟩, F3⟩
  have H3 := hidp (show QIs w3 48 w.heap.size b v3 [97, 98, 10, 99] 9 false from Q3)
  have hB3 := hB2.trans (F3.below hB2.size hbw)
  clear Q3 F3 hal hBa Q2 H1
  go_wp2_with fail
  refine (line_yes w.heap.size b v3 [97, 98, 10, 99] 9 false 5 2 w3 H3.out rfl (by decide)).mono ?_
  rintro e w4 ⟨v4, rfl, hO4, ⟨u4, Q4⟩, F4⟩
  have hs4 := str_of (xs := [97, 98]) hO4
  have H4 := hidp (show QIs w4 48 w.heap.size b u4 [99] 9 false from Q4)
  have hB4 := hB3.trans (F4.below hB3.size hbw)
  clear Q4 F4 H3 hO4
  go_wp2_with (first
    | (go_at_call 11; refine (len_any w.heap.size b _ [99] 9 false _ H4.out).mono ?_; rintro e w5 ⟨rfl, rfl⟩)
    | (go_at_call 22; refine (room_any w.heap.size b _ [99] 9 false _ H4.out).mono ?_; rintro e w5 ⟨rfl, hB5⟩))
  go_ret
  exact ⟨rfl, hB4.trans (hB5.mono hB4.size)⟩
end Go.Proofs.Ytfcfckcpmjccoaa
