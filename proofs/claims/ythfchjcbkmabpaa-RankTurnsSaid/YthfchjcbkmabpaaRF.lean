/- The document's number of a candidate at a step: it is the program's key. -/
import Derived.Test.YthfchjcbkmabpaaRE
namespace Go.Proofs.Ythfchjcbkmabpaa
open Go.RowKit

theorem wrap64_k (x : Int) : wrap64 x = IntKind.i64.wrap x := by rw [IntKind.wrap_i64]; simp only [wrap64]
def numE (c : Cnd) (s : Nat) (e : Ending) : Prop := e = .returned (.int .i64 (c.key (s - 1)))
theorem numE_of {c : Cnd} {s : Nat} {x : Int} (h : x = c.key (s - 1)) : numE c s (.returned (.int .i64 x)) := by unfold numE; rw [h]
set_option maxHeartbeats 2000000 in
theorem number_any (c : Cnd) (s : Nat) (w : World) (h : c.at w) (hn : c.pl ≤ 1000000) (h1 : 1 ≤ s) (h8 : s ≤ 8) :
    Calls Try.prog 29 #[c.val, .int .i64 s] w fun e w' => numE c s e ∧ Below w.heap.size w w' := by
  have hs : s = 1 ∨ s = 2 ∨ s = 3 ∨ s = 4 ∨ s = 5 ∨ s = 6 ∨ s = 7 ∨ s = 8 := by omega
  have hB : Below w.heap.size w (w.alloc (.cells c.cells.toArray 34)) := (Below.refl w.heap.size w).alloc (Nat.le_refl _) _
  have k0 : (w.alloc (.cells c.cells.toArray 34)).heap[w.heap.size]? = some (.cells c.cells.toArray 34 (0, 0)) := heap_alloc_new w _
  have c0 := cellOf k0 0 (v := .int .i64 c.peer) rfl
  have c1 := cellOf k0 1 (v := .bool c.ext) rfl
  have c3 := cellOf k0 3 (v := .int .u32 c.id) rfl
  have c4 := cellOf k0 4 (v := .int .u32 c.addr) rfl
  have c5 := cellOf k0 5 (v := .int .i64 c.origin) rfl
  have c6 := cellOf k0 6 (v := .slice c.pa c.pl c.pc) rfl
  have c8 := cellOf k0 8 (v := .int .i64 c.med) rfl
  have c9 := cellOf k0 9 (v := .int .i64 c.pref) rfl
  have HB := hidp hB
  have HA := hidp (h.below hB)
  clear hB k0 h h1 h8
  unfold Cnd.val
  rcases hs with rfl | rfl | rfl | rfl | rfl | rfl | rfl | rfl
  · by_cases hp : c.pref < 0
    · have HP := hidp (show (-100 : Int) = c.key (1 - 1) by show _ = IntKind.i64.wrap (-c.pre); unfold Cnd.pre; rw [if_pos hp]; rfl)
      go_enter Try.func29, Try.ntmps29
      go_wp2
      go_ret
      exact ⟨numE_of HP.out, HB.out⟩
    · have HP := hidp (show (wrap64 (-c.pref) : Int) = c.key (1 - 1) by rw [wrap64_k]; show _ = IntKind.i64.wrap (-c.pre); unfold Cnd.pre; rw [if_neg hp])
      go_enter Try.func29, Try.ntmps29
      go_wp2
      go_ret
      exact ⟨numE_of HP.out, HB.out⟩
  · go_enter Try.func29, Try.ntmps29
    go_wp2_with (first
      | (go_at_call 15; refine (rcount_any _ _ _ c.segs _ HA.out hn).mono ?_; rintro e w1 ⟨rfl, B1⟩
         have HB1 := hidp (HB.out.trans (B1.mono HB.out.size))
         clear B1))
    go_ret
    exact ⟨numE_of rfl, HB1.out⟩
  · go_enter Try.func29, Try.ntmps29
    go_wp2
    go_ret
    exact ⟨numE_of rfl, HB.out⟩
  · by_cases hp : c.med < 0
    · have HP := hidp (show (0 : Int) = c.key (4 - 1) by show _ = c.md; unfold Cnd.md; rw [if_pos hp])
      go_enter Try.func29, Try.ntmps29
      go_wp2
      go_ret
      exact ⟨numE_of HP.out, HB.out⟩
    · have HP := hidp (show c.med = c.key (4 - 1) by show _ = c.md; unfold Cnd.md; rw [if_neg hp])
      go_enter Try.func29, Try.ntmps29
      go_wp2
      go_ret
      exact ⟨numE_of HP.out, HB.out⟩
  · cases he : c.ext with
    | true =>
      have HP := hidp (show (0 : Int) = c.key (5 - 1) by show _ = if c.ext = true then (0 : Int) else 1; rw [he]; rfl)
      rw [he] at c1
      clear he
      go_enter Try.func29, Try.ntmps29
      go_wp2
      go_ret
      exact ⟨numE_of HP.out, HB.out⟩
    | false =>
      have HP := hidp (show (1 : Int) = c.key (5 - 1) by show _ = if c.ext = true then (0 : Int) else 1; rw [he]; rfl)
      rw [he] at c1
      clear he
      go_enter Try.func29, Try.ntmps29
      go_wp2
      go_ret
      exact ⟨numE_of HP.out, HB.out⟩
  · go_enter Try.func29, Try.ntmps29
    go_wp2
    go_ret
    exact ⟨numE_of (wrap64_k _), HB.out⟩
  · go_enter Try.func29, Try.ntmps29
    go_wp2
    go_ret
    exact ⟨numE_of (wrap64_k _), HB.out⟩
  · go_enter Try.func29, Try.ntmps29
    go_wp2
    go_ret
    exact ⟨numE_of rfl, HB.out⟩
end Go.Proofs.Ythfchjcbkmabpaa
