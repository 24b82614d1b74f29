/- The clock's example answers true. -/
import Derived.Test.YtefnbmggokfanaaRSkip
import Derived.Test.YtefnbmggokfanaaSets
namespace Go.Proofs.Ytefnbmggokfanaa
open Go.RowKit

set_option maxHeartbeats 2000000 in
theorem awake_any (w : World) : Calls Try.prog 10 #[] w fun e w' => e = .returned (.bool true) ∧ Below w.heap.size w w' := by
  go_enter Try.func10, Try.ntmps10
  go_wp2_with fail
  go_call set_any 0 0 0 1 2 _ as e w1 ⟨rfl, hbel1⟩
  rw [show setV 0 0 0 1 2 = .agg #[.int .i64 0, .int .i64 2, .int .i64 0] from rfl]
  go_wp2_with fail
  go_call tick_any 0 2 0 _ (by omega) (by omega) (by omega) as e w2 ⟨v, rfl, hown2, hbel2⟩
  rw [show dn 1 0 = 0 from rfl, show dn 1 2 = 1 from rfl]
  rw [show out3 1 0 2 0 3 = [] from rfl] at hown2
  obtain ⟨a2, c2, rfl⟩ := ownsRow_slice hown2
  go_wp2_with fail
  go_call tick_any 0 1 0 _ (by omega) (by omega) (by omega) as e w3 ⟨v, rfl, hown3, hbel3⟩
  rw [show dn 1 0 = 0 from rfl, show dn 1 1 = 0 from rfl]
  rw [show out3 1 0 1 0 3 = [1] from rfl] at hown3
  obtain ⟨g, cap, rfl, hg, hglt, hgc⟩ := ownsRow_at hown3 (by simp)
  have hc0 := hgc 0 (.int .i64 1) rfl
  have hz : w2.heap.size < w3.heap.size := by have := hbel3.size; simp at this; omega
  have hbox := heap_below hbel3 (heap_alloc_new w2 _) (by simp)
  have b1 := cellOf hbox 1 (v := .int .i64 1) rfl
  clear hbox hgc hown3 hown2
  have hb3 : Below w.heap.size w w3 := ((hbel1.trans (hbel2.mono hbel1.size)).alloc (by have := hbel1.size; have := hbel2.size; omega) _).trans (hbel3.mono (by have := hbel1.size; have := hbel2.size; simp; omega))
  clear hbel1 hbel2 hbel3
  go_wp2_with fail
  go_call runs_any 0 0 0 1 _ as e w4 ⟨rfl, hbel4⟩
  rw [show runsB 0 0 0 1 = false from rfl]
  go_wp2
  go_ret
  refine ⟨rfl, ?_⟩
  have := hb3.size
  exact (hb3.alloc (by omega) _).trans (hbel4.mono (by simp; omega))
end Go.Proofs.Ytefnbmggokfanaa
