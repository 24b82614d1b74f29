/- Of no table there is nothing; New, Len, Get, Leave, Close. -/
import Derived.Test.YtkmhdffkganhaaaCG
import Derived.Laws.ResultCell
namespace Go.Proofs.Ytkmhdffkganhaaa
open Go.RowKit

theorem len_nil (w : World) : Calls Try.prog 16 #[.pointer none] w fun e w' => e = .returned (.int .i64 0) ∧ w = w' := by
  go_enter Try.func16, Try.ntmps16
  go_wp2
  go_ret
  exact ⟨rfl, rfl⟩
theorem len_any (base b : Nat) (v : Value) (L : List Cur) (most life next : Int) (w : World) (h : TabIs w base b v L most life next) :
    Calls Try.prog 16 #[.pointer (some ⟨b, 0, none⟩)] w fun e w' => e = .returned (.int .i64 L.length) ∧ w = w' := by
  obtain ⟨a, cap, rfl, -⟩ := h.own.row
  obtain ⟨-, -, -, c3, -, -⟩ := h.cells (Below.refl _ _)
  clear h
  go_enter Try.func16, Try.ntmps16
  go_wp2
  go_ret
  exact ⟨rfl, rfl⟩
theorem tick_nil (w : World) : Calls Try.prog 9 #[.pointer none] w fun e w' => e = .returned (.slice none 0 0) ∧ Below w.heap.size w w' := by
  go_enter Try.func9, Try.ntmps9
  go_wp2
  go_ret
  exact ⟨rfl, by go_grown⟩
theorem leave_nil (n : Int) (w : World) : Calls Try.prog 15 #[.pointer none, .int .i64 n] w fun e w' => e = .returned (.slice none 0 0) ∧ Below w.heap.size w w' := by
  have hmf : ∀ (fn : Fn) (first cap : Array Value) (w : World), (Instr.makeFunc fn first cap).run Try.prog w = .ok (.func fn first cap) w := fun _ _ _ _ => rfl
  go_enter Try.func15, Try.ntmps15
  go_wp2_with (first | (go_at_call 28; refine (gone_nil _ _).mono ?_; rintro e w1 ⟨rfl, rfl⟩))
  go_ret
  exact ⟨rfl, by go_grown⟩
theorem move_nil (o n x y : Int) (w : World) : Calls Try.prog 10 #[.pointer none, .int .i64 o, .int .i64 n, .agg #[.int .u32 x, .int .i64 y]] w fun e w' => e = .returned (.bool false) ∧ Below w.heap.size w w' := by
  go_enter Try.func10, Try.ntmps10
  go_wp2_with (first | (go_at_call 31; refine (find_nil _ _ _).mono ?_; rintro e w1 ⟨rfl, hB1⟩))
  go_ret
  exact ⟨rfl, ((Below.refl _ _).alloc (Nat.le_refl _) _).trans (hB1.mono (by simp))⟩
def zarr34 : Array Value := #[.int .i64 0, .int .i64 0, .int .i64 0, .int .i64 0, .int .i64 0, .int .u32 0, .int .i64 0, .int .i64 0, .int .i64 0, .string ⟨#[]⟩, .slice none 0 0, .int .i64 0, .bool false, .int .u32 0, .int .i64 0, .int .i64 0]
theorem results_cur {fn : Func} {p u : Tmp} (h : fn.results = #[.cell p 34, .tmp u]) (tmps : Array Value) (w : World) (g : Nat) (cs : Array Value) (hs : cs.size = 16) (hp : tmps.getD p undef = .pointer (some ⟨g, 0, none⟩)) (hg : w.heap[g]? = some (.cells cs 34 (0, 0))) :
    (results fn tmps).run Try.prog w = .ok (.tuple #[.agg cs, tmps.getD u undef]) w := by
  rw [results_cell_tmp h, hp]
  have := run_loadVar_row (P := Try.prog) w g 34 34 cs (0, 0) _ hg Try.underlying34 rfl (by rw [hs]; exact Try.info34)
  simp [asAddr, this, Result.andThen]
theorem below_setRow {B : Nat} {w w' : World} (h : Below B w w') (g : Nat) (hg : B ≤ g) (cs : Array Value) : Below B w (w'.setRow g cs) :=
  ⟨h.os, h.tape, h.output, by simpa [World.setRow] using h.size, fun k hk => by rw [setRow_other _ _ _ _ (by omega)]; exact h.block k hk⟩
theorem get_nil (o n : Int) (w : World) : Calls Try.prog 11 #[.pointer none, .int .i64 o, .int .i64 n] w fun e w' => e = .returned (.tuple #[.agg zarr34, .bool false]) ∧ Below w.heap.size w w' := by
  go_enter Try.func11, Try.ntmps11
  go_wp2_with (first
    | (go_at_call 31; refine (find_nil _ _ _).mono ?_; rintro e w1 ⟨rfl, hB1⟩
       have K := hidp (heap_below hB1 (heap_alloc_new w (.cells zarr34 34)) (by simp))
       have hB := hidp (((Below.refl w.heap.size w).alloc (Nat.le_refl _) (.cells zarr34 34)).trans (hB1.mono (by simp)))
       clear hB1)
    | (with_reducible refine wpList_store_row rfl 34 (.tmp 6) (.tmp 15) rfl w.heap.size _ rfl rfl 34 _ K.out (by simpa using Try.info34) (by simp [zarr34]) (by simp [Value.oneCell']) ?_))
  refine bodyPost_ret (results_cur rfl _ _ w.heap.size zarr34 rfl rfl (setRow_heap _ _ _ zarr34 _ _ K.out)) rfl ?_
  exact ⟨rfl, below_setRow hB.out _ (Nat.le_refl _) _⟩

theorem get_any (base b : Nat) (v : Value) (L : List Cur) (most life next o n : Int) (w : World) (h : TabIs w base b v L most life next) (hn : L.length ≤ 1000) :
    Calls Try.prog 11 #[.pointer (some ⟨b, 0, none⟩), .int .i64 o, .int .i64 n] w fun e w' =>
      ((idxC (isAt o n) L = -1 ∧ e = .returned (.tuple #[.agg zarr34, .bool false])) ∨ (∃ (j : Nat) (h : j < L.length), idxC (isAt o n) L = j ∧ e = .returned (.tuple #[L[j].val, .bool true]))) ∧ Below w.heap.size w w' := by
  have H := hidp h
  obtain ⟨a, cap, rfl, hR⟩ := h.own.row
  have HR := hidp hR
  have HB0 := hidp ((Below.refl w.heap.size w).alloc (Nat.le_refl _) (.cells zarr34 34))
  have H1 := hidp (h.below HB0.out (Nat.le_refl _))
  clear h hR
  rcases idxC_cases (isAt o n) L with ⟨h1, -⟩ | ⟨j, hj, h1, -, -⟩
  · have HI := hidp h1
    clear h1
    go_enter Try.func11, Try.ntmps11
    go_wp2_with (first
      | (go_at_call 31; refine (find_any base b _ L most life next o n _ H1.out hn).mono ?_; rw [HI.out]; rintro e w1 ⟨rfl, hB1⟩
         have K := hidp (heap_below hB1 (heap_alloc_new w (.cells zarr34 34)) (by simp))
         have hB := hidp (HB0.out.trans (hB1.mono (by simp)))
         clear hB1)
      | (with_reducible refine wpList_store_row rfl 34 (.tmp 6) (.tmp 15) rfl w.heap.size _ rfl rfl 34 _ K.out (by simpa using Try.info34) (by simp [zarr34]) (by simp [Value.oneCell']) ?_))
    refine bodyPost_ret (results_cur rfl _ _ w.heap.size zarr34 rfl rfl (setRow_heap _ _ _ zarr34 _ _ K.out)) rfl ?_
    exact ⟨.inl ⟨HI.out, rfl⟩, below_setRow hB.out _ (Nat.le_refl _) _⟩
  · have HI := hidp h1
    obtain ⟨g, off, rfl, hc⟩ := HR.out (by omega)
    have l1 : (j : Int) < (L.length : Int) := by omega
    have hcj := hidp (hc j hj)
    clear h1 hc
    go_enter Try.func11, Try.ntmps11
    go_wp2_with (first
      | (go_at_call 31; refine (find_any base b _ L most life next o n _ H1.out hn).mono ?_; rw [HI.out]; rintro e w1 ⟨rfl, hB1⟩
         have K := hidp (heap_below hB1 (heap_alloc_new w (.cells zarr34 34)) (by simp))
         have hB := hidp (HB0.out.trans (hB1.mono (by simp)))
         obtain ⟨-, -, -, c3, -, -⟩ := H.out.cells hB.out
         have HJ : Hid (w1.rangeAt g (off + j * 16) L[j].cells) := fun i v hv => below_cell hB.out (Nat.le_refl _) _ _ (hcj.out i v hv)
         clear hB1)
      | (with_reducible refine wpList_load_mid rfl 34 (.tmp 21) rfl g (off + j * 16) rfl L[j].cells _ HJ.out Try.underlying34 rfl (by rw [Cur.len]; exact Try.info34) ?_)
      | (with_reducible refine wpList_store_row rfl 34 (.tmp 6) (.tmp 22) rfl w.heap.size L[j].cells.toArray rfl rfl 34 _ K.out (by rw [List.size_toArray, Cur.len]; exact Try.info34) rfl (all_one _) ?_))
    refine bodyPost_ret (results_cur rfl _ _ w.heap.size L[j].cells.toArray rfl rfl (setRow_heap _ _ _ _ _ _ K.out)) rfl ?_
    exact ⟨.inr ⟨j, hj, HI.out, rfl⟩, below_setRow hB.out _ (Nat.le_refl _) _⟩
end Go.Proofs.Ytkmhdffkganhaaa
