/- The document's Close, Leave. -/
import Derived.Test.YtkmhdffkganhaaaCH
namespace Go.Proofs.Ytkmhdffkganhaaa
open Go.RowKit

/-- a new list is laid into the document's table -/
theorem DocIs.put {w w2 : World} {base d : Nat} {a : Option Addr} {c : Nat} {L L' : List Cur} {most life last : Int} (h : DocIs w base d a c L most life last) (hB : Below w.heap.size w w2) {b2 : Nat} {a' : Option Addr} {n' c' : Nat} (hO : OutD w2 b2 (.slice a' n' c') L') :
    DocIs (w2.setCell ⟨d, 3, none⟩ (.slice a' n' c')) base d a' c' L' most life last := by
  obtain ⟨a1, c1, e, hr, ht⟩ := hO.row
  cases e
  have hd := ltOf h.blk
  refine ⟨?_, fun hp => ?_, fun hp ad had => ?_, h.hb⟩
  · have := heap_setCell_same (heap_below hB h.blk hd) 3 (.slice a' L'.length c')
    simpa using this
  · obtain ⟨g, o, e, hr⟩ := hr hp
    obtain ⟨C, hC⟩ := ht _ e
    refine ⟨g, o, e, fun i hi j v hv => ?_⟩
    have h1 := hr i hi j v hv
    have hg : g ≠ d := by
      intro e'
      subst e'
      rw [heap_below hB h.blk hd] at hC
      cases hC
    rw [← h1]
    exact farCell _ _ _ _ _ _ (Ne.symm hg)
  · obtain ⟨C, hC⟩ := ht ad had
    have hg : ad.block ≠ d := by
      intro e'
      rw [e', heap_below hB h.blk hd] at hC
      cases hC
    exact ⟨C, by rw [Below.heap_setCell _ _ _ _ hg]; exact hC⟩

theorem OutD.far {w : World} {base d : Nat} {v : Value} {L : List Cur} {C : Array Value} (h : OutD w base v L) (hd : w.heap[d]? = some (.cells C 62 (0, 0))) (o : Nat) (u : Value) : OutD (w.setCell ⟨d, o, none⟩ u) base v L :=
  ownsRow_of_heap h fun g hg => Below.heap_setCell _ _ _ _ (by
    rintro rfl
    obtain ⟨_, cu, hc⟩ := ownsRow_block h g hg
    rw [hd] at hc
    cases hc)
theorem doc_leave (base d : Nat) (a : Option Addr) (c : Nat) (L : List Cur) (most life last n : Int) (w : World) (h : DocIs w base d a c L most life last) (hn : L.length ≤ 1000) :
    Calls Try.prog 25 #[.pointer (some ⟨d, 0, none⟩), .int .i64 n] w fun e w' => ∃ g, e = .returned g ∧ OutD w' w.heap.size g (L.filter fun c => c.owner == n) ∧ (∃ a' c', DocIs w' base d a' c' (L.filter fun c => !(c.owner == n)) most life last) ∧ Frame1 d w w' := by
  have H := hidp h
  have c3 := cellOf h.blk 3 (v := .slice a L.length c) rfl
  have hd := ltOf h.blk
  clear h
  go_enter Try.func25, Try.ntmps25
  go_wp2_with (first
    | (go_at_call 36; refine (split_any a L.length c L 1 n (fun c => c.owner == n) w H.out.row rfl (.inr (.inl ⟨rfl, rfl⟩)) hn).mono ?_
       rintro e w1 ⟨⟨s, g, rfl, hS, hG⟩, B1⟩
       obtain ⟨a', c', rfl⟩ := ownsRow_slice hS
       have k1 := heap_below B1 H.out.blk hd
       have d3 := cellOf k1 3 (v := .slice a L.length c) rfl
       have f3 := frozenOf k1 3
       have H1 := hidp (And.intro hS (And.intro hG B1))
       clear hS hG B1 k1))
  go_ret
  obtain ⟨hS, hG, hB⟩ := H1.out
  exact ⟨_, rfl, hG.far (heap_below hB H.out.blk hd) _ _, ⟨_, _, H.out.put hB hS⟩, (Frame1.of_below hB).trans (Frame1.setCell w1 3 _)⟩

theorem DocIs.setRow {w : World} {base d q : Nat} {a : Option Addr} {c : Nat} {L : List Cur} {most life last : Int} (h : DocIs w base d a c L most life last) (hq : d ≠ q) (hqa : ∀ ad, a = some ad → ad.block ≠ q) (cs : Array Value) : DocIs (w.setRow q cs) base d a c L most life last := by
  refine ⟨by rw [setRow_other _ _ _ _ hq]; exact h.blk, fun hp => ?_, fun hp ad had => ?_, h.hb⟩
  · obtain ⟨g, o, e, hr⟩ := h.row hp
    refine ⟨g, o, e, fun i hi j v hv => ?_⟩
    have hg := hqa _ e
    rw [← hr i hi j v hv]
    exact cell_same (setRow_other _ _ _ _ hg)
  · obtain ⟨C, hC⟩ := h.typ hp ad had
    exact ⟨C, by rw [setRow_other _ _ _ _ (hqa _ had)]; exact hC⟩
theorem OutD.apart {w : World} {base q : Nat} {a : Option Addr} {n c : Nat} {L : List Cur} (h : OutD w base (.slice a n c) L) (hq : q < base) : ∀ ad, a = some ad → ad.block ≠ q := by
  intro ad had
  subst had
  have := (ownsRow_block h ad.block rfl).1
  omega
theorem Frame1.setRow {d q : Nat} {w w' : World} (h : Frame1 d w w') (hq : w.heap.size ≤ q) (cs : Array Value) : Frame1 d w (w'.setRow q cs) :=
  ⟨h.os, h.tape, h.output, by simpa [World.setRow] using h.size, fun k hk hd => by rw [setRow_other _ _ _ _ (by omega)]; exact h.block k hk hd⟩
structure BoxR (q : Nat) (cs : Array Value) (w0 w : World) : Prop where
  box : w.heap[q]? = some (.cells cs 53 (0, 0))
  bel : Below w0.heap.size w0 w
set_option maxHeartbeats 2000000 in
theorem doc_close (base d : Nat) (a : Option Addr) (c : Nat) (L : List Cur) (most life last o n : Int) (w : World) (h : DocIs w base d a c L most life last) (hn : L.length ≤ 1000) :
    Calls Try.prog 24 #[.pointer (some ⟨d, 0, none⟩), .int .i64 o, .int .i64 n] w fun e w' =>
      ((idxC (isAt o n) L = -1 ∧ e = .returned (.tuple #[.agg zarr34, .bool false]) ∧ ∃ a' c', DocIs w' base d a' c' L most life last) ∨
       (∃ (j : Nat) (h : j < L.length), idxC (isAt o n) L = j ∧ e = .returned (.tuple #[L[j].val, .bool true]) ∧ ∃ a' c', DocIs w' base d a' c' (L.filter (fun c => !(c.id == n))) most life last)) ∧ Frame1 d w w' := by
  have hB0 := (Below.refl w.heap.size w).alloc (Nat.le_refl _) (.cells zarr34 53)
  have H := hidp (h.below hB0)
  have hdw : d < w.heap.size := ltOf h.blk
  have HW := hidp h
  have H0 := hidp (BoxR.mk (heap_alloc_new w (.cells zarr34 53)) hB0)
  have hz : Hid ((Try.prog.info? 53).map (·.size) = some zarr34.size) := Try.info53
  have hs0 : (w.alloc (.cells zarr34 53)).heap.size = w.heap.size + 1 := by simp
  clear h hB0
  go_enter Try.func24, Try.ntmps24
  go_upto_region 1 with (fail)
  change Code.wp Try.prog _ _ _ (w.alloc (.cells zarr34 53))
  generalize w.alloc (.cells zarr34 53) = w0 at *
  rcases idxC_cases (isAt o n) L with ⟨h1, -⟩ | ⟨j, hj, h1, -, -⟩
  · have HI := hidp h1
    clear h1
    go_wp2_with (first
      | (go_at_call 21; refine (doc_get base d a c L most life last o n w0 H.out hn).mono ?_
         rintro e w1 ⟨hr, B1⟩
         obtain rfl : e = .returned (.tuple #[.agg zarr34, .bool false]) := by
           rcases hr with ⟨_, h⟩ | ⟨j, hj, h, _⟩
           · exact h
           · rw [HI.out] at h; omega
         have H1 := hidp B1
         have hs1 := B1.size
         clear hr B1)
      | (with_reducible refine wpList_store_row rfl 53 (.tmp 8) (.tmp 17) rfl w1.heap.size zarr34 rfl rfl 53 _ (heap_alloc_new w1 _) hz.out rfl zarr_one ?_
         rw [World.setRow_alloc_new]
         have hB2 : Below w1.heap.size w1 (w1.alloc (.cells zarr34 53)) := (Below.refl _ _).alloc (Nat.le_refl _) _
         have hK2 := heap_alloc_new w1 (.cells zarr34 53)
         generalize w1.alloc (.cells zarr34 53) = w2 at *
         have H2 := hidp (H1.out.trans (hB2.mono H1.out.size))
         have K2 := hidp hK2
         clear hB2 hK2)
      | (with_reducible refine wpList_load_row rfl 53 (.tmp 8) rfl w1.heap.size rfl 53 zarr34 (0, 0) _ K2.out Try.underlying53 rfl hz.out ?_)
      | (with_reducible refine wpList_store_row rfl 53 (.tmp 6) (.tmp 33) rfl w.heap.size zarr34 rfl rfl 53 _ (heap_below H2.out H0.out.box (by omega)) hz.out rfl zarr_one ?_))
    refine bodyPost_ret (results_cur53 rfl _ _ w.heap.size zarr34 rfl rfl (setRow_heap _ _ _ _ _ _ (heap_below H2.out H0.out.box (by omega)))) rfl ?_
    have hB : Below w.heap.size w (w2.setRow w.heap.size zarr34) := below_setRow (H0.out.bel.trans (H2.out.mono (by omega))) _ (Nat.le_refl _) _
    exact ⟨.inl ⟨HI.out, rfl, a, c, HW.out.below hB⟩, Frame1.of_below hB⟩
  · have HI := hidp h1
    have hx : Hid ((Try.prog.info? 53).map (·.size) = some L[j].cells.toArray.size) := Try.info53c _
    clear h1
    go_wp2_with (first
      | (go_at_call 21; refine (doc_get base d a c L most life last o n w0 H.out hn).mono ?_
         rintro e w1 ⟨hr, B1⟩
         obtain rfl : e = .returned (.tuple #[.agg L[j].cells.toArray, .bool true]) := by
           rcases hr with ⟨h, _⟩ | ⟨j', hj', h, h'⟩
           · rw [HI.out] at h; omega
           · obtain rfl : j = j' := by rw [HI.out] at h; omega
             exact h'
         have H1 := hidp B1
         have hs1 := B1.size
         clear hr B1)
      | (with_reducible refine wpList_store_row rfl 53 (.tmp 8) (.tmp 17) rfl w1.heap.size L[j].cells.toArray rfl rfl 53 _ (heap_alloc_new w1 _) hx.out rfl (all_one _) ?_
         rw [World.setRow_alloc_new]
         have hB2 : Below w1.heap.size w1 (w1.alloc (.cells L[j].cells.toArray 53)) := (Below.refl _ _).alloc (Nat.le_refl _) _
         have hK2 := heap_alloc_new w1 (.cells L[j].cells.toArray 53)
         generalize w1.alloc (.cells L[j].cells.toArray 53) = w2 at *
         have H2 := hidp (H1.out.trans (hB2.mono H1.out.size))
         have K2 := hidp hK2
         have hB0 := (H0.out.bel.trans (H2.out.mono (by omega)))
         have D2 := hidp (HW.out.below hB0)
         have HB2 := hidp hB0
         have hq2 : w.heap.size < w2.heap.size := Nat.lt_of_lt_of_le (ltOf H0.out.box) H2.out.size
         have hs2 := ltOf hK2
         have c3 := cellOf D2.out.blk 3 (v := .slice a L.length c) rfl
         have X2 := hidp (heap_below H2.out H0.out.box (ltOf H0.out.box))
         clear hB2 hK2 hB0)
      | (go_at_call 36; refine (split_any a L.length c L 0 n (fun c => c.id == n) w2 D2.out.row rfl (.inl ⟨rfl, rfl⟩) hn).mono ?_
         rintro e w3 ⟨⟨s, gg, rfl, hS, hG⟩, B3⟩
         obtain ⟨a', c', rfl⟩ := ownsRow_slice hS
         have hd2 : d < w2.heap.size := ltOf D2.out.blk
         have k3 := heap_below B3 D2.out.blk hd2
         have d3 := cellOf k3 3 (v := .slice a L.length c) rfl
         have f3 := frozenOf k3 3
         have hP := (D2.out.put B3 hS).setRow (q := w.heap.size) (by omega) (hS.apart hq2) L[j].cells.toArray
         have hF := (((Frame1.of_below HB2.out).then (B3.mono (by omega))).trans (Frame1.setCell (b := d) w3 3 (.slice a' (L.filter fun c => !(c.id == n)).length c'))).setRow (Nat.le_refl _) L[j].cells.toArray
         have k4 : (w3.setCell ⟨d, 3, none⟩ (.slice a' (L.filter fun c => !(c.id == n)).length c')).heap[w1.heap.size]? = some (.cells L[j].cells.toArray 53 (0, 0)) := by
           rw [Below.heap_setCell _ _ _ _ (by show w1.heap.size ≠ d; omega)]
           exact heap_below B3 K2.out hs2
         have b4 : (w3.setCell ⟨d, 3, none⟩ (.slice a' (L.filter fun c => !(c.id == n)).length c')).heap[w.heap.size]? = some (.cells zarr34 53 (0, 0)) := by
           rw [Below.heap_setCell _ _ _ _ (by show w.heap.size ≠ d; omega)]
           exact heap_below B3 X2.out hq2
         have HP := hidp hP
         have HF := hidp hF
         have K4 := hidp k4
         have B4 := hidp b4
         clear hS hG B3 k3 hP hF k4 b4)
      | (with_reducible refine wpList_load_row rfl 53 (.tmp 8) rfl w1.heap.size rfl 53 L[j].cells.toArray (0, 0) _ K4.out Try.underlying53 rfl hx.out ?_)
      | (with_reducible refine wpList_store_row rfl 53 (.tmp 6) (.tmp 33) rfl w.heap.size L[j].cells.toArray rfl rfl 53 _ B4.out hx.out rfl (all_one _) ?_))
    refine bodyPost_ret (results_cur53 rfl _ _ w.heap.size L[j].cells.toArray rfl rfl (setRow_heap _ _ _ _ _ _ B4.out)) rfl ?_
    exact ⟨.inr ⟨j, hj, HI.out, rfl, a', c', HP.out⟩, HF.out⟩
end Go.Proofs.Ytkmhdffkganhaaa
