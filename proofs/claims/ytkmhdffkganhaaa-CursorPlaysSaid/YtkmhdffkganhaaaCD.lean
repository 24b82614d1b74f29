/- told: a cursor as the document's; same: two lists of them. -/
import Derived.Test.YtkmhdffkganhaaaCS
import Derived.Test.YtkmhdffkganhaaaCO2
namespace Go.Proofs.Ytkmhdffkganhaaa
open Go.RowKit

theorem Try.info53 : (Try.prog.info? 53).map (·.size) = some 16 := by kernel_rfl
theorem Try.info29 : (Try.prog.info? 29).map (·.size) = some 2 := by kernel_rfl
theorem results_cur1 {fn : Func} {p : Tmp} (h : fn.results = #[.cell p 53]) (tmps : Array Value) (w : World) (g : Nat) (cs : Array Value) (hs : cs.size = 16) (hp : tmps.getD p undef = .pointer (some ⟨g, 0, none⟩)) (hg : w.heap[g]? = some (.cells cs 53 (0, 0))) :
    (results fn tmps).run Try.prog w = .ok (.agg cs) w :=
  results_cell_row h tmps w g 53 cs (0, 0) _ hp hg Try.underlying53 rfl (by rw [hs]; exact Try.info53)

set_option maxHeartbeats 4000000 in
theorem told_any (c : Cur) (w : World) : Calls Try.prog 19 #[c.val] w fun e w' => e = .returned c.val ∧ Below w.heap.size w w' := by
  obtain ⟨cid, cow, cve, kind, mode, pa, pl, tab, peer, rx, ca, cl, c3, cur, out, aa, al, age⟩ := c
  unfold Cur.val Cur.cells
  have hB := ((Below.refl w.heap.size w).alloc (Nat.le_refl _) (.cells #[.int .i64 cid, .int .i64 cow, .int .i64 cve, .int .i64 kind, .int .i64 mode, .int .u32 pa, .int .i64 pl, .int .i64 tab, .int .i64 peer, .string rx, .slice ca cl c3, .int .i64 cur, .bool out, .int .u32 aa, .int .i64 al, .int .i64 age] 34)).alloc (by simp) (.cells zarr34 53)
  have HB := hidp hB
  have k0 : ((w.alloc (.cells #[.int .i64 cid, .int .i64 cow, .int .i64 cve, .int .i64 kind, .int .i64 mode, .int .u32 pa, .int .i64 pl, .int .i64 tab, .int .i64 peer, .string rx, .slice ca cl c3, .int .i64 cur, .bool out, .int .u32 aa, .int .i64 al, .int .i64 age] 34)).alloc (.cells zarr34 53)).heap[w.heap.size]? = some (.cells #[.int .i64 cid, .int .i64 cow, .int .i64 cve, .int .i64 kind, .int .i64 mode, .int .u32 pa, .int .i64 pl, .int .i64 tab, .int .i64 peer, .string rx, .slice ca cl c3, .int .i64 cur, .bool out, .int .u32 aa, .int .i64 al, .int .i64 age] 34 (0, 0)) := heap_alloc_old' _ _ (heap_alloc_new w _)
  have k1 : ((w.alloc (.cells #[.int .i64 cid, .int .i64 cow, .int .i64 cve, .int .i64 kind, .int .i64 mode, .int .u32 pa, .int .i64 pl, .int .i64 tab, .int .i64 peer, .string rx, .slice ca cl c3, .int .i64 cur, .bool out, .int .u32 aa, .int .i64 al, .int .i64 age] 34)).alloc (.cells zarr34 53)).heap[w.heap.size + 1]? = some (.cells zarr34 53 (0, 0)) := by
    have := heap_alloc_new (w.alloc (.cells #[.int .i64 cid, .int .i64 cow, .int .i64 cve, .int .i64 kind, .int .i64 mode, .int .u32 pa, .int .i64 pl, .int .i64 tab, .int .i64 peer, .string rx, .slice ca cl c3, .int .i64 cur, .bool out, .int .u32 aa, .int .i64 al, .int .i64 age] 34)) (.cells zarr34 53)
    simpa using this
  have K0 := hidp k0
  have K1 := hidp k1
  clear hB k0 k1
  go_enter Try.func19, Try.ntmps19
  go_upto_region 1 with (fail)
  change Code.wp Try.prog _ _ _ ((w.alloc (.cells #[.int .i64 cid, .int .i64 cow, .int .i64 cve, .int .i64 kind, .int .i64 mode, .int .u32 pa, .int .i64 pl, .int .i64 tab, .int .i64 peer, .string rx, .slice ca cl c3, .int .i64 cur, .bool out, .int .u32 aa, .int .i64 al, .int .i64 age] 34)).alloc (.cells zarr34 53))
  generalize (w.alloc (.cells #[.int .i64 cid, .int .i64 cow, .int .i64 cve, .int .i64 kind, .int .i64 mode, .int .u32 pa, .int .i64 pl, .int .i64 tab, .int .i64 peer, .string rx, .slice ca cl c3, .int .i64 cur, .bool out, .int .u32 aa, .int .i64 al, .int .i64 age] 34)).alloc (.cells zarr34 53) = W0 at *
  have p0 : W0.cell? ⟨w.heap.size, 0, none⟩ = some (.int .i64 cid) := cellOf K0.out 0 rfl
  have p1 : W0.cell? ⟨w.heap.size, 1, none⟩ = some (.int .i64 cow) := cellOf K0.out 1 rfl
  have p2 : W0.cell? ⟨w.heap.size, 2, none⟩ = some (.int .i64 cve) := cellOf K0.out 2 rfl
  have p15 : W0.cell? ⟨w.heap.size, 15, none⟩ = some (.int .i64 age) := cellOf K0.out 15 rfl
  have h0 : W0.rangeAt w.heap.size 0 (#[.int .i64 cid, .int .i64 cow, .int .i64 cve, .int .i64 kind, .int .i64 mode, .int .u32 pa, .int .i64 pl, .int .i64 tab, .int .i64 peer, .string rx, .slice ca cl c3, .int .i64 cur, .bool out, .int .u32 aa, .int .i64 al, .int .i64 age] : Array Value).toList := fun i v hv => by rw [Nat.zero_add]; exact cellOf K0.out i (by simpa using hv)
  have R0 : Hid (W0.rangeAt w.heap.size 3 [.int .i64 kind, .int .i64 mode, .int .u32 pa, .int .i64 pl, .int .i64 tab, .int .i64 peer, .string rx, .slice ca cl c3, .int .i64 cur, .bool out]) := by
    have := range_sub (n := 10) (k := 3) (sub := [.int .i64 kind, .int .i64 mode, .int .u32 pa, .int .i64 pl, .int .i64 tab, .int .i64 peer, .string rx, .slice ca cl c3, .int .i64 cur, .bool out]) h0 rfl
    rwa [Nat.zero_add] at this
  have R1 : Hid (W0.rangeAt w.heap.size 13 [.int .u32 aa, .int .i64 al]) := by
    have := range_sub (n := 2) (k := 13) (sub := [.int .u32 aa, .int .i64 al]) h0 rfl
    rwa [Nat.zero_add] at this
  clear h0
  have hi : Hid ((Try.prog.info? 32).map (·.size) = some ([.int .i64 kind, .int .i64 mode, .int .u32 pa, .int .i64 pl, .int .i64 tab, .int .i64 peer, .string rx, .slice ca cl c3, .int .i64 cur, .bool out] : List Value).length) := Try.info32
  have hi' : Hid ((Try.prog.info? 29).map (·.size) = some ([.int .u32 aa, .int .i64 al] : List Value).length) := Try.info29
  have hi53 : Hid ((Try.prog.info? 53).map (·.size) = some (#[.int .i64 cid, .int .i64 cow, .int .i64 cve, .int .i64 kind, .int .i64 mode, .int .u32 pa, .int .i64 pl, .int .i64 tab, .int .i64 peer, .string rx, .slice ca cl c3, .int .i64 cur, .bool out, .int .u32 aa, .int .i64 al, .int .i64 age] : Array Value).size) := Try.info53
  have hone : Hid ((#[.int .i64 cid, .int .i64 cow, .int .i64 cve, .int .i64 kind, .int .i64 mode, .int .u32 pa, .int .i64 pl, .int .i64 tab, .int .i64 peer, .string rx, .slice ca cl c3, .int .i64 cur, .bool out, .int .u32 aa, .int .i64 al, .int .i64 age] : Array Value).all (·.oneCell') = true) := by simp [Hid, Value.oneCell']
  go_wp2_with (first
    | (with_reducible refine wpList_load_mid rfl 32 (.tmp 9) rfl w.heap.size 3 rfl [.int .i64 kind, .int .i64 mode, .int .u32 pa, .int .i64 pl, .int .i64 tab, .int .i64 peer, .string rx, .slice ca cl c3, .int .i64 cur, .bool out] _ R0.out Try.underlying32 rfl hi.out ?_)
    | (with_reducible refine wpList_load_mid rfl 29 (.tmp 11) rfl w.heap.size 13 rfl [.int .u32 aa, .int .i64 al] _ R1.out Try.underlying29 rfl hi'.out ?_)
    | (with_reducible refine wpList_store_row rfl 53 (.tmp 2) (.tmp 15) rfl (w.heap.size + 1) #[.int .i64 cid, .int .i64 cow, .int .i64 cve, .int .i64 kind, .int .i64 mode, .int .u32 pa, .int .i64 pl, .int .i64 tab, .int .i64 peer, .string rx, .slice ca cl c3, .int .i64 cur, .bool out, .int .u32 aa, .int .i64 al, .int .i64 age] rfl rfl 53 _ K1.out hi53.out rfl hone.out ?_
       have hB2 := below_setRow HB.out (w.heap.size + 1) (by omega) #[.int .i64 cid, .int .i64 cow, .int .i64 cve, .int .i64 kind, .int .i64 mode, .int .u32 pa, .int .i64 pl, .int .i64 tab, .int .i64 peer, .string rx, .slice ca cl c3, .int .i64 cur, .bool out, .int .u32 aa, .int .i64 al, .int .i64 age]
       have hW2 := setRow_heap W0 _ _ #[.int .i64 cid, .int .i64 cow, .int .i64 cve, .int .i64 kind, .int .i64 mode, .int .u32 pa, .int .i64 pl, .int .i64 tab, .int .i64 peer, .string rx, .slice ca cl c3, .int .i64 cur, .bool out, .int .u32 aa, .int .i64 al, .int .i64 age] _ _ K1.out
       generalize W0.setRow (w.heap.size + 1) #[.int .i64 cid, .int .i64 cow, .int .i64 cve, .int .i64 kind, .int .i64 mode, .int .u32 pa, .int .i64 pl, .int .i64 tab, .int .i64 peer, .string rx, .slice ca cl c3, .int .i64 cur, .bool out, .int .u32 aa, .int .i64 al, .int .i64 age] = W2 at *
       have HB2 := hidp hB2
       have HW2 := hidp hW2
       clear hB2 hW2))
  exact bodyPost_ret (results_cur1 rfl _ _ (w.heap.size + 1) #[.int .i64 cid, .int .i64 cow, .int .i64 cve, .int .i64 kind, .int .i64 mode, .int .u32 pa, .int .i64 pl, .int .i64 tab, .int .i64 peer, .string rx, .slice ca cl c3, .int .i64 cur, .bool out, .int .u32 aa, .int .i64 al, .int .i64 age] rfl rfl HW2.out) rfl ⟨rfl, HB2.out⟩
end Go.Proofs.Ytkmhdffkganhaaa
