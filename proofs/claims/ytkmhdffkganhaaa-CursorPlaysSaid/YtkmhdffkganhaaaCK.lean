/- Tick and Move of a table: cells of its row are written in place. -/
import Derived.Test.YtkmhdffkganhaaaCA
namespace Go.Proofs.Ytkmhdffkganhaaa
open Go.RowKit

theorem flat_set (c' : Cur) (k : Nat) (hk : k < 16) (u : Value) : ∀ (L : List Cur) (i : Nat) (h : i < L.length), c'.cells = L[i].cells.set k u → (L.flatMap Cur.cells).set (i * 16 + k) u = (L.set i c').flatMap Cur.cells
  | [], _, h, _ => absurd h (by simp)
  | c :: r, 0, _, hc => by
    have hc : c'.cells = c.cells.set k u := hc
    rw [List.flatMap_cons, Nat.zero_mul, Nat.zero_add, List.set_append_left _ _ (by rw [Cur.len]; omega), ← hc]
    rfl
  | c :: r, i + 1, h, hc => by
    rw [List.flatMap_cons, List.set_append_right _ _ (by rw [Cur.len]; omega), Cur.len, show (i + 1) * 16 + k - 16 = i * 16 + k by omega, flat_set c' k hk u r i (by simpa using h) hc]
    rfl
theorem TabIs.setAt {w : World} {base b g n cap : Nat} {L : List Cur} {most life next : Int} (T : TabIs w base b (.slice (some ⟨g, 0, none⟩) n cap) L most life next) (i : Nat) (hi : i < L.length) (c' : Cur) (k : Nat) (hk : k < 16) (u : Value)
    (hc : c'.cells = L[i].cells.set k u) : TabIs (w.setCell ⟨g, i * 16 + k, none⟩ u) base b (.slice (some ⟨g, 0, none⟩) n cap) (L.set i c') most life next ∧ w.frozen? ⟨g, i * 16 + k, none⟩ = false := by
  have hgb : g ≠ b := T.ne g rfl
  obtain ⟨h1, ⟨hv, _⟩ | ⟨g', cap', cur, hv, hg, hh, hn, hm, hs, ht⟩⟩ := T.own
  · cases hv
  · cases hv
    refine ⟨⟨by rw [Below.heap_setCell _ _ _ _ (by simpa using hgb.symm)]; exact T.blk, ?_, T.hb⟩, frozenOf hh _⟩
    unfold OutC
    rw [← flat_set c' k hk u L i hi hc, List.length_set]
    refine ⟨by simpa using h1, .inr ⟨g, cap, cur.setIfInBounds (i * 16 + k) u, rfl, hg, heap_setCell_same hh _ _, hn, hm, by simpa using hs, ?_⟩⟩
    rw [Array.toList_setIfInBounds, List.take_set, ht]
theorem TabIs.nth {w : World} {base b : Nat} {v : Value} {L : List Cur} {most life next : Int} (T : TabIs w base b v L most life next) (i : Nat) (hi : i < L.length) :
    ∃ g cap, v = .slice (some ⟨g, 0, none⟩) L.length cap ∧ w.rangeAt g (i * 16) L[i].cells := by
  obtain ⟨_, ⟨hv, h0⟩ | ⟨g, cap, cur, hv, hg, hh, r⟩⟩ := T.own
  · omega
  · refine ⟨g, cap, hv, fun j u hu => ?_⟩
    have hk : j < 16 := by have := (List.getElem?_eq_some_iff.1 hu).1; rwa [Cur.len] at this
    have hc := World.ownsRow.cells (g := g) T.own (by rw [hv]; rfl) (i * 16 + j) u (by rw [flat_at L i j hi hk]; exact hu)
    rw [Addr.add_mid, Nat.zero_add] at hc
    exact hc
theorem FrameV.refl (b : Nat) (v : Value) (w : World) : FrameV b v w w := ⟨rfl, rfl, rfl, Nat.le_refl _, fun _ _ _ _ => rfl⟩
theorem FrameV.of_below {b : Nat} {v : Value} {w w' : World} (h : Below w.heap.size w w') : FrameV b v w w' := ⟨h.os, h.tape, h.output, h.size, fun k hk _ _ => h.block k hk⟩
theorem FrameV.row {b g : Nat} {n cap : Nat} {w w' : World} (F : FrameV b (.slice (some ⟨g, 0, none⟩) n cap) w w') (o : Nat) (u : Value) : FrameV b (.slice (some ⟨g, 0, none⟩) n cap) w (w'.setCell ⟨g, o, none⟩ u) :=
  ⟨F.os, F.tape, F.output, by simpa [World.setCell] using F.size, fun k hk h1 h2 => by rw [Below.heap_setCell _ _ _ _ (fun e => h2 (by simp [Value.ownBlock]; exact e.symm))]; exact F.block k hk h1 h2⟩

def Cur.older (c : Cur) : Cur := { c with age := c.age + 1 }
def agedTo (L : List Cur) (j : Nat) : List Cur := (L.take j).map Cur.older ++ L.drop j
theorem agedTo_zero (L : List Cur) : agedTo L 0 = L := by simp [agedTo]
theorem agedTo_end (L : List Cur) : agedTo L L.length = L.map Cur.older := by simp [agedTo]
theorem agedTo_len (L : List Cur) (j : Nat) : (agedTo L j).length = L.length := by simp [agedTo]; omega
theorem agedTo_at (L : List Cur) (j : Nat) (hj : j < L.length) : (agedTo L j)[j]'(by rw [agedTo_len]; exact hj) = L[j] := by
  unfold agedTo
  rw [List.getElem_append_right (by simp; omega)]
  simp [Nat.min_eq_left (Nat.le_of_lt hj)]
theorem agedTo_step (L : List Cur) (j : Nat) (hj : j < L.length) : (agedTo L j).set j (L[j].older) = agedTo L (j + 1) := by
  unfold agedTo
  rw [List.set_append_right _ _ (by simp; omega), List.length_map, List.length_take, Nat.min_eq_left (by omega), Nat.sub_self, List.drop_eq_getElem_cons hj, List.set_cons_zero, List.take_add_one, List.getElem?_eq_getElem hj, List.map_append, List.append_assoc]
  rfl

/-- what the loop of Tick carries -/
structure TickRel (w : World) (base b p : Nat) (v : Value) (L : List Cur) (most life next : Int) (j : Nat) (wr : World) : Prop where
  tab : TabIs wr base b v (agedTo L j) most life next
  box : wr.heap[p]? = some (.cells #[.pointer (some ⟨b, 0, none⟩)] 22 (0, 0))
  frame : FrameV b v w wr

set_option maxHeartbeats 2000000 in
theorem tick_any (base b : Nat) (v : Value) (L : List Cur) (most life next : Int) (w : World) (h : TabIs w base b v L most life next) (hn : L.length ≤ 1000) (ha : ∀ c ∈ L, 0 ≤ c.age ∧ c.age ≤ 1000000) :
    Calls Try.prog 9 #[.pointer (some ⟨b, 0, none⟩)] w fun e w' => ∃ o, e = .returned o ∧ OutC w' w.heap.size o ((L.map Cur.older).filter (fun c => decide (life ≤ c.age))) ∧
      (∃ v', TabIs w' base b v' ((L.map Cur.older).filter (fun c => !decide (life ≤ c.age))) most life next) ∧ FrameV b v w w' := by
  have H := hidp h
  obtain ⟨a, cap, hv, -⟩ := h.own.row
  have hB := (Below.refl w.heap.size w).alloc (Nat.le_refl _) (.cells #[.pointer (some ⟨b, 0, none⟩)] 22)
  have T1 := h.below hB (Nat.le_refl _)
  have hp1 := heap_alloc_new w (.cells #[.pointer (some ⟨b, 0, none⟩)] 22)
  have R0 : Hid (TickRel w base b w.heap.size v L most life next 0 (w.alloc (.cells #[.pointer (some ⟨b, 0, none⟩)] 22))) := ⟨by rw [agedTo_zero]; exact T1, hp1, FrameV.of_below hB⟩
  obtain ⟨-, -, -, c3, -, -⟩ := T1.cells (Below.refl _ _)
  have hbp : b < w.heap.size := ltOf h.blk
  have HA := hidp ha
  subst hv
  clear h hB T1 hp1 ha
  go_enter Try.func9, Try.ntmps9
  go_wp2
  go_loopw [11] (fun i wr => ∃ j : Nat, j ≤ L.length ∧ i = .int .i64 j ∧ Hid (TickRel w base b w.heap.size (.slice a L.length cap) L most life next j wr)) (fun i _ => L.length - (intOf i).toNat)
  case atStart => exact ⟨0, by omega, rfl, R0⟩
  case round =>
    obtain ⟨j, hj, rfl, HR⟩ := hrel
    clear R0 c3
    by_cases hlt : j < L.length
    · obtain ⟨g, cap', hv, hr⟩ := HR.out.tab.nth j (by rw [agedTo_len]; exact hlt)
      rw [agedTo_len] at hv
      cases hv
      obtain ⟨-, -, -, c3, -, -⟩ := HR.out.tab.cells (Below.refl _ _)
      have b0 := cellOf HR.out.box 0 (v := .pointer (some ⟨b, 0, none⟩)) rfl
      rw [agedTo_at L j hlt] at hr
      have r15 := hr 15 (.int .i64 L[j].age) rfl
      obtain ⟨hT, hf⟩ := HR.out.tab.setAt j (by rw [agedTo_len]; exact hlt) L[j].older 15 (by omega) (.int .i64 (L[j].age + 1)) (by rw [agedTo_at L j hlt]; rfl)
      rw [agedTo_step L j hlt] at hT
      have hgw : g ≠ w.heap.size := by
        obtain ⟨_, cc, hcc⟩ := ownsRow_block H.out.own g rfl
        have := ltOf hcc; omega
      have R1 : Hid (TickRel w base b w.heap.size (.slice (some ⟨g, 0, none⟩) L.length cap) L most life next (j + 1) (wr.setCell ⟨g, j * 16 + 15, none⟩ (.int .i64 (L[j].age + 1)))) :=
        ⟨hT, by rw [Below.heap_setCell _ _ _ _ (by simpa using hgw.symm)]; exact HR.out.box, HR.out.frame.row _ _⟩
      have hage := HA.out L[j] (List.getElem_mem hlt)
      have l1 : (j : Int) < (L.length : Int) := by omega
      generalize L[j].age = ag at r15 R1 hage
      clear hr hT
      go_wp2
      go_roundw
      case rel => exact ⟨j + 1, by omega, by go_num, R1⟩
      case measure => simp [intOf]; omega
    · obtain rfl : j = L.length := by omega
      have l1 : ¬ ((L.length : Int) < (L.length : Int)) := by omega
      have b0 := cellOf HR.out.box 0 (v := .pointer (some ⟨b, 0, none⟩)) rfl
      have hT := HR.out.tab
      rw [agedTo_end] at hT
      have HT := hidp hT
      have hmf : ∀ (fn : Fn) (first cap : Array Value) (w : World), (Instr.makeFunc fn first cap).run Try.prog w = .ok (.func fn first cap) w := fun _ _ _ _ => rfl
      have e30 : Hid (∀ args w, (callFunc 30 args).run Try.prog w = .ok (.enter 30 args) w) := fun args w => enters_fn Try.func30 (by kernel_rfl) rfl args w
      clear hT
      go_wp2_with fail
      refine (gone_any base b _ (L.map Cur.older) most life next 30 #[.pointer (some ⟨w.heap.size, 0, none⟩)] (fun c => decide (life ≤ c.age)) wr HT.out (by simpa using hn) e30.out (fun c W hW => ?_)).mono ?_
      · exact cl30 c w.heap.size b life W (below_cell hW (Nat.le_refl _) _ _ b0) (HT.out.cells hW).2.1
      rintro e w1 ⟨o, rfl, hO, hT1, hF⟩
      go_wp2
      go_ret
      exact ⟨o, rfl, ownsRow_weaken hO HR.out.frame.size, hT1, HR.out.frame.then hF⟩

theorem farCell (w : World) (g o b k : Nat) (u : Value) (h : g ≠ b) : (w.setCell ⟨g, o, none⟩ u).cell? ⟨b, k, none⟩ = w.cell? ⟨b, k, none⟩ := World.cell?_setCell_other _ _ _ _ (by intro e; exact h (by cases e; rfl))
def Cur.moved (c : Cur) (x y : Int) : Cur := { c with aa := x, al := y, age := 0 }
theorem move_no (base b : Nat) (v : Value) (L : List Cur) (most life next o n x y : Int) (w : World) (h : TabIs w base b v L most life next) (hn : L.length ≤ 1000) (hi : idxC (isAt o n) L = -1) :
    Calls Try.prog 10 #[.pointer (some ⟨b, 0, none⟩), .int .i64 o, .int .i64 n, .agg #[.int .u32 x, .int .i64 y]] w fun e w' => e = .returned (.bool false) ∧ Below w.heap.size w w' := by
  have hB := (Below.refl w.heap.size w).alloc (Nat.le_refl _) (.cells #[.int .u32 x, .int .i64 y] 29)
  have HT := hidp (h.below hB (Nat.le_refl _))
  have HB := hidp hB
  have HI := hidp hi
  clear h hB hi
  go_enter Try.func10, Try.ntmps10
  go_wp2_with (first | (go_at_call 31; refine (find_any base b v L most life next o n _ HT.out hn).mono ?_; rw [HI.out]; rintro e w1 ⟨rfl, hB1⟩; have HB1 := hidp (HB.out.trans (hB1.mono HB.out.size)); clear hB1))
  go_ret
  exact ⟨rfl, HB1.out⟩
set_option maxHeartbeats 4000000 in
theorem move_yes (base b : Nat) (v : Value) (L : List Cur) (most life next o n x y : Int) (j : Nat) (w : World) (h : TabIs w base b v L most life next) (hn : L.length ≤ 1000) (hj : j < L.length) (hi : idxC (isAt o n) L = j) :
    Calls Try.prog 10 #[.pointer (some ⟨b, 0, none⟩), .int .i64 o, .int .i64 n, .agg #[.int .u32 x, .int .i64 y]] w fun e w' => e = .returned (.bool true) ∧ TabIs w' base b v (L.set j (L[j].moved x y)) most life next ∧ FrameV b v w w' := by
  have hB := (Below.refl w.heap.size w).alloc (Nat.le_refl _) (.cells #[.int .u32 x, .int .i64 y] 29)
  have HT := hidp (h.below hB (Nat.le_refl _))
  have HB := hidp hB
  have HI := hidp hi
  have hq := heap_alloc_new w (.cells #[.int .u32 x, .int .i64 y] 29)
  have HQ := hidp hq
  have H := hidp h
  have hbw := ltOf h.blk
  have hlen : L.length = L.length := rfl
  obtain ⟨g, cap, hv, hr⟩ := h.nth j hj
  subst hv
  have HG := hidp hr
  have l1 : (j : Int) < (L.length : Int) := by omega
  clear h hB hi hq hr hlen
  go_enter Try.func10, Try.ntmps10
  go_upto_region 4 with (first | (go_at_call 31; refine (find_any base b _ L most life next o n _ HT.out hn).mono ?_; rw [HI.out]; rintro e w1 ⟨rfl, hB1⟩; have HB1 := hidp hB1; clear hB1))
  have HB2 := hidp (HB.out.trans (HB1.out.mono HB.out.size))
  have hT1 := HT.out.below HB1.out (Nat.le_refl _)
  have hq1 := heap_below HB1.out HQ.out (by simp)
  have hgb : g ≠ b := hT1.ne g rfl
  have hgq : g ≠ w.heap.size := by
    obtain ⟨_, cc, hcc⟩ := ownsRow_block H.out.own g rfl
    have := ltOf hcc; omega
  obtain ⟨-, -, -, m3, -, -⟩ := hT1.cells (Below.refl _ _).drew
  have a0 : w1.drew.cell? ⟨w.heap.size, 0, none⟩ = some (.int .u32 x) := cellOf (w := w1.drew) hq1 0 rfl
  have a1 : w1.drew.cell? ⟨w.heap.size, 1, none⟩ = some (.int .i64 y) := cellOf (w := w1.drew) hq1 1 rfl
  have r13 : w1.drew.cell? ⟨g, j * 16 + 13, none⟩ = some (.int .u32 L[j].aa) := below_cell (HB2.out.trans ((Below.refl _ _).drew.mono HB2.out.size)) (Nat.le_refl _) _ _ (HG.out 13 _ rfl)
  have r14 : w1.drew.cell? ⟨g, j * 16 + 14, none⟩ = some (.int .i64 L[j].al) := below_cell (HB2.out.trans ((Below.refl _ _).drew.mono HB2.out.size)) (Nat.le_refl _) _ _ (HG.out 14 _ rfl)
  have r15 : w1.drew.cell? ⟨g, j * 16 + 15, none⟩ = some (.int .i64 L[j].age) := below_cell (HB2.out.trans ((Below.refl _ _).drew.mono HB2.out.size)) (Nat.le_refl _) _ _ (HG.out 15 _ rfl)
  have hT2 := hT1.below (Below.refl _ _).drew (Nat.le_refl _)
  obtain ⟨t3, f13⟩ := hT2.setAt j hj { L[j] with aa := x } 13 (by omega) (.int .u32 x) rfl
  obtain ⟨t4, f14⟩ := t3.setAt j (by simpa using hj) { L[j] with aa := x, al := y } 14 (by omega) (.int .i64 y) (by rw [List.getElem_set_self]; rfl)
  obtain ⟨t5, f15⟩ := t4.setAt j (by simpa using hj) (L[j].moved x y) 15 (by omega) (.int .i64 0) (by rw [List.getElem_set_self]; rfl)
  rw [List.set_set, List.set_set] at t5
  have f14' : w1.drew.frozen? ⟨g, j * 16 + 14, none⟩ = false := by obtain ⟨_, h⟩ := hT2.setAt j hj { L[j] with al := y } 14 (by omega) (.int .i64 y) rfl; exact h
  have f15' : w1.drew.frozen? ⟨g, j * 16 + 15, none⟩ = false := by obtain ⟨_, h⟩ := hT2.setAt j hj { L[j] with age := 0 } 15 (by omega) (.int .i64 0) rfl; exact h
  have FV : FrameV b (.slice (some ⟨g, 0, none⟩) L.length cap) w (((w1.drew.setCell ⟨g, j * 16 + 13, none⟩ (.int .u32 x)).setCell ⟨g, j * 16 + 14, none⟩ (.int .i64 y)).setCell ⟨g, j * 16 + 15, none⟩ (.int .i64 0)) :=
    (((FrameV.of_below (HB2.out.trans ((Below.refl _ _).drew.mono HB2.out.size))).row _ _).row _ _).row _ _
  have FIN := hidp (And.intro t5 FV)
  clear t3 t4 t5 FV hT1 hT2 hq1 f14 f15
  have y14 : w1.frozen? ⟨g, j * 16 + 13 + 1, none⟩ = false := f14'
  have x14 : w1.cell? ⟨g, j * 16 + 13 + 1, none⟩ = some (.int .i64 L[j].al) := r14
  have x13 : w1.cell? ⟨g, j * 16 + 13, none⟩ = some (.int .u32 L[j].aa) := r13
  have x15 : w1.cell? ⟨g, j * 16 + 15, none⟩ = some (.int .i64 L[j].age) := r15
  have y13 : w1.frozen? ⟨g, j * 16 + 13, none⟩ = false := f13
  have y15 : w1.frozen? ⟨g, j * 16 + 15, none⟩ = false := f15'
  have b3 : w1.cell? ⟨b, 3, none⟩ = some (.slice (some ⟨g, 0, none⟩) L.length cap) := m3
  have k2 : ∀ (bb k : Nat) {v : Value}, g ≠ bb → w1.cell? ⟨bb, k, none⟩ = some v → ((w1.setCell ⟨g, j * 16 + 13, none⟩ (.int .u32 x)).setCell ⟨g, j * 16 + 13 + 1, none⟩ (.int .i64 y)).cell? ⟨bb, k, none⟩ = some v :=
    fun bb k _ hb hv => by rw [farCell _ _ _ _ _ _ hb, farCell _ _ _ _ _ _ hb]; exact hv
  have k3 : ∀ (bb k : Nat) {v : Value}, g ≠ bb → w1.cell? ⟨bb, k, none⟩ = some v → (((w1.setCell ⟨g, j * 16 + 13, none⟩ (.int .u32 x)).setCell ⟨g, j * 16 + 13 + 1, none⟩ (.int .i64 y)).setCell ⟨g, j * 16 + 15, none⟩ (.int .i64 0)).cell? ⟨bb, k, none⟩ = some v :=
    fun bb k _ hb hv => by rw [farCell _ _ _ _ _ _ hb]; exact k2 bb k hb hv
  go_region_held (fun W => W.cell? ⟨b, 3, none⟩ = some (.slice (some ⟨g, 0, none⟩) L.length cap) ∧ W.cell? ⟨w.heap.size, 0, none⟩ = some (.int .u32 x) ∧ W.cell? ⟨w.heap.size, 1, none⟩ = some (.int .i64 y))
    (first | exact ⟨m3, a0, a1⟩ | exact ⟨k2 b 3 hgb m3, k2 _ 0 hgq a0, k2 _ 1 hgq a1⟩ | exact ⟨k3 b 3 hgb m3, k3 _ 0 hgq a0, k3 _ 1 hgq a1⟩) (fail)
  all_goals go_wp2
  all_goals go_ret
  all_goals exact ⟨rfl, FIN.out⟩
end Go.Proofs.Ytkmhdffkganhaaa
