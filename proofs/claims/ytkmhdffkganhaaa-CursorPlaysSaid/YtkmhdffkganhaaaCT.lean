/- New, Leave, Close of a table. -/
import Derived.Test.YtkmhdffkganhaaaCN
namespace Go.Proofs.Ytkmhdffkganhaaa
open Go.RowKit

theorem Try.info34z : (Try.prog.info? 34).map (·.size) = some zarr34.size := Try.info34
theorem zarr_one : zarr34.all (·.oneCell') = true := by simp [zarr34, Value.oneCell']
theorem heap_alloc_old' (w : World) (o : Obj) {k : Nat} {x : Obj} (h : w.heap[k]? = some x) : (w.alloc o).heap[k]? = some x := (heap_alloc_old w o (ltOf h)).trans h
theorem TabIs.setRow {w : World} {base b q : Nat} {v : Value} {L : List Cur} {most life next : Int} (h : TabIs w base b v L most life next) (hqb : q ≠ b) (hqv : ∀ g, v.ownBlock = some g → g ≠ q) (cs : Array Value) : TabIs (w.setRow q cs) base b v L most life next :=
  ⟨by rw [setRow_other _ _ _ _ hqb.symm]; exact h.blk, ownsRow_of_heap h.own fun g hg => setRow_other _ _ _ _ (hqv g hg), h.hb⟩
def capM (n : Int) : Int := if n < 0 then 0 else if 8 < n then 8 else n
def capL (n : Int) : Int := if n < 1 then 1 else n
theorem new_any (most life : Int) (w : World) : Calls Try.prog 7 #[.int .i64 most, .int .i64 life] w fun e w' => ∃ b, e = .returned (.pointer (some ⟨b, 0, none⟩)) ∧ TabIs w' w.heap.size b (.slice none 0 0) [] (capM most) (capL life) 0 ∧ Below w.heap.size w w' := by
  have hM : (most < 0 ∧ Hid (capM most = 0)) ∨ ((0 ≤ most ∧ 8 < most) ∧ Hid (capM most = 8)) ∨ ((0 ≤ most ∧ most ≤ 8) ∧ Hid (capM most = most)) := by
    unfold Hid capM
    split
    · exact .inl ⟨by omega, rfl⟩
    · split
      · exact .inr (.inl ⟨by omega, rfl⟩)
      · exact .inr (.inr ⟨by omega, rfl⟩)
  have hL : (life < 1 ∧ Hid (capL life = 1)) ∨ (1 ≤ life ∧ Hid (capL life = life)) := by
    unfold Hid capL
    split
    · exact .inl ⟨by omega, rfl⟩
    · exact .inr ⟨by omega, rfl⟩
  rcases hM with ⟨h, hc⟩ | ⟨⟨h, h2⟩, hc⟩ | ⟨⟨h, h2⟩, hc⟩
  all_goals
   rcases hL with ⟨k, kc⟩ | ⟨k, kc⟩
   all_goals
    go_enter Try.func7, Try.ntmps7
    go_wp2
    go_ret
    refine ⟨_, rfl, ⟨?_, World.ownsRow_nil _ _ _ _, Nat.le_refl _⟩, by go_grown⟩
    rw [hc.out, kc.out]
    exact heap_alloc_new _ _

theorem leave_any (base b : Nat) (v : Value) (L : List Cur) (most life next n : Int) (w : World) (h : TabIs w base b v L most life next) (hn : L.length ≤ 1000) :
    Calls Try.prog 15 #[.pointer (some ⟨b, 0, none⟩), .int .i64 n] w fun e w' => ∃ o, e = .returned o ∧ OutC w' w.heap.size o (L.filter (fun c => c.owner == n)) ∧ (∃ v', TabIs w' base b v' (L.filter (fun c => !(c.owner == n))) most life next) ∧ Frame1 b w w' := by
  have hmf : ∀ (fn : Fn) (first cap : Array Value) (w : World), (Instr.makeFunc fn first cap).run Try.prog w = .ok (.func fn first cap) w := fun _ _ _ _ => rfl
  have e34 : Hid (∀ args w, (callFunc 34 args).run Try.prog w = .ok (.enter 34 args) w) := fun args w => enters_fn Try.func34 (by kernel_rfl) rfl args w
  have hB := (Below.refl w.heap.size w).alloc (Nat.le_refl _) (.cells #[.int .i64 n] 3)
  have H1 := hidp (h.below hB (Nat.le_refl _))
  have HB := hidp hB
  have k1 : Hid ((w.alloc (.cells #[.int .i64 n] 3)).cell? ⟨w.heap.size, 0, none⟩ = some (.int .i64 n)) := cellOf (heap_alloc_new _ _) 0 rfl
  clear h hB
  go_enter Try.func15, Try.ntmps15
  go_wp2_with fail
  refine (gone_any base b v L most life next 34 #[.pointer (some ⟨w.heap.size, 0, none⟩)] (fun c => c.owner == n) _ H1.out hn e34.out (fun c W hW => ?_)).mono ?_
  · exact cl34 c w.heap.size n W (below_cell hW (Nat.le_refl _) _ _ k1.out)
  rintro e w1 ⟨o, rfl, hO, hT, hF⟩
  go_wp2
  go_ret
  exact ⟨o, rfl, ownsRow_weaken hO HB.out.size, hT, Frame1.mono_below HB.out (Nat.le_refl _) hF⟩

set_option maxHeartbeats 1000000 in
theorem close_nil (o n : Int) (w : World) : Calls Try.prog 14 #[.pointer none, .int .i64 o, .int .i64 n] w fun e w' => e = .returned (.tuple #[.agg zarr34, .bool false]) ∧ Below w.heap.size w w' := by
  have HB0 := hidp (((Below.refl w.heap.size w).alloc (Nat.le_refl _) (.cells #[.int .i64 n] 3)).alloc (by simp) (.cells zarr34 34))
  have K0 : Hid (((w.alloc (.cells #[.int .i64 n] 3)).alloc (.cells zarr34 34)).heap[w.heap.size + 1]? = some (.cells zarr34 34 (0, 0))) := by
    have := heap_alloc_new (w.alloc (.cells #[.int .i64 n] 3)) (.cells zarr34 34)
    simpa [Hid] using this
  go_enter Try.func14, Try.ntmps14
  go_wp2_with fail
  refine (get_nil _ _ _).mono ?_
  rintro e w1 ⟨rfl, hB1⟩
  have K := hidp (heap_below hB1 K0.out (by simp))
  have hB := hidp (HB0.out.trans (hB1.mono HB0.out.size))
  clear hB1
  go_wp2_with (first
    | (with_reducible refine wpList_store_row rfl 34 (.tmp 8) (.tmp 15) rfl w1.heap.size zarr34 rfl rfl 34 _ (heap_alloc_new w1 _) Try.info34z rfl zarr_one ?_
       rw [World.setRow_alloc_new]
       have K2 := hidp (heap_alloc_old' w1 (.cells zarr34 34) K.out)
       have K3 := hidp (heap_alloc_new w1 (.cells zarr34 34))
       have hB2 := hidp (hB.out.alloc hB.out.size (.cells zarr34 34))
       generalize w1.alloc (.cells zarr34 34) = w2 at K2 K3 hB2 ⊢)
    | (with_reducible refine wpList_load_row rfl 34 (.tmp 8) rfl w1.heap.size rfl 34 zarr34 (0, 0) _ K3.out Try.underlying34 rfl Try.info34z ?_)
    | (with_reducible refine wpList_store_row rfl 34 (.tmp 6) (.tmp 21) rfl (w.heap.size + 1) zarr34 rfl rfl 34 _ K2.out Try.info34z rfl zarr_one ?_))
  refine bodyPost_ret (results_cur rfl _ _ (w.heap.size + 1) zarr34 rfl rfl (setRow_heap _ _ _ zarr34 _ _ K2.out)) rfl ?_
  exact ⟨rfl, below_setRow hB2.out _ (by omega) _⟩

set_option maxHeartbeats 4000000 in
theorem close_any (base b : Nat) (v : Value) (L : List Cur) (most life next o n : Int) (w : World) (h : TabIs w base b v L most life next) (hn : L.length ≤ 1000) :
    Calls Try.prog 14 #[.pointer (some ⟨b, 0, none⟩), .int .i64 o, .int .i64 n] w fun e w' =>
      ((idxC (isAt o n) L = -1 ∧ e = .returned (.tuple #[.agg zarr34, .bool false]) ∧ ∃ v', TabIs w' base b v' L most life next) ∨
       (∃ (j : Nat) (h : j < L.length), idxC (isAt o n) L = j ∧ e = .returned (.tuple #[L[j].val, .bool true]) ∧ ∃ v', TabIs w' base b v' (L.filter (fun c => !(c.id == n))) most life next)) ∧ Frame1 b w w' := by
  have hb1 := (Below.refl w.heap.size w).alloc (Nat.le_refl _) (.cells #[.int .i64 n] 3)
  have hb2 := hb1.alloc (by simp) (.cells zarr34 34)
  have K0 : Hid (((w.alloc (.cells #[.int .i64 n] 3)).alloc (.cells zarr34 34)).heap[w.heap.size + 1]? = some (.cells zarr34 34 (0, 0))) := by
    have := heap_alloc_new (w.alloc (.cells #[.int .i64 n] 3)) (.cells zarr34 34)
    simpa [Hid] using this
  have k1 : ((w.alloc (.cells #[.int .i64 n] 3)).alloc (.cells zarr34 34)).cell? ⟨w.heap.size, 0, none⟩ = some (.int .i64 n) :=
    cellOf (heap_alloc_old' _ _ (heap_alloc_new w (.cells #[.int .i64 n] 3))) 0 rfl
  have K1 := hidp k1
  have HT := hidp (h.below hb2 (Nat.le_refl _))
  have HB := hidp hb2
  have hbw := ltOf h.blk
  have HVB : Hid (∀ g, v.ownBlock = some g → g < w.heap.size) := fun g hg => by obtain ⟨_, cc, hcc⟩ := ownsRow_block h.own g hg; exact ltOf hcc
  clear h hb1 hb2
  have hmf : ∀ (fn : Fn) (first cap : Array Value) (w : World), (Instr.makeFunc fn first cap).run Try.prog w = .ok (.func fn first cap) w := fun _ _ _ _ => rfl
  have e33 : Hid (∀ args w, (callFunc 33 args).run Try.prog w = .ok (.enter 33 args) w) := fun args w => enters_fn Try.func33 (by kernel_rfl) rfl args w
  go_enter Try.func14, Try.ntmps14
  go_wp2_with fail
  refine (get_any base b v L most life next o n _ HT.out hn).mono ?_
  rintro e w1 ⟨hres, hB1⟩
  have K := hidp (heap_below hB1 K0.out (by simp))
  have k2 := hidp (below_cell hB1 (Nat.le_refl _) _ _ K1.out)
  have hB := hidp (HB.out.trans (hB1.mono HB.out.size))
  have HT1 := hidp (HT.out.below hB1 (Nat.le_refl _))
  clear hB1 k1
  rcases hres with ⟨hi, rfl⟩ | ⟨j, hj, hi, rfl⟩
  · have HI := hidp hi
    clear hi
    go_wp2_with (first
      | (with_reducible refine wpList_store_row rfl 34 (.tmp 8) (.tmp 15) rfl w1.heap.size zarr34 rfl rfl 34 _ (heap_alloc_new w1 _) Try.info34z rfl zarr_one ?_
         rw [World.setRow_alloc_new]
         have K2 := hidp (heap_alloc_old' w1 (.cells zarr34 34) K.out)
         have K3 := hidp (heap_alloc_new w1 (.cells zarr34 34))
         have hB2 := hidp (hB.out.alloc hB.out.size (.cells zarr34 34))
         have HT2 := hidp (HT1.out.below ((Below.refl w1.heap.size w1).alloc (Nat.le_refl _) (.cells zarr34 34)) (Nat.le_refl _))
         generalize w1.alloc (.cells zarr34 34) = w2 at K2 K3 hB2 HT2 ⊢)
      | (with_reducible refine wpList_load_row rfl 34 (.tmp 8) rfl w1.heap.size rfl 34 zarr34 (0, 0) _ K3.out Try.underlying34 rfl Try.info34z ?_)
      | (with_reducible refine wpList_store_row rfl 34 (.tmp 6) (.tmp 21) rfl (w.heap.size + 1) zarr34 rfl rfl 34 _ K2.out Try.info34z rfl zarr_one ?_))
    refine bodyPost_ret (results_cur rfl _ _ (w.heap.size + 1) zarr34 rfl rfl (setRow_heap _ _ _ zarr34 _ _ K2.out)) rfl ?_
    exact ⟨.inl ⟨HI.out, rfl, v, HT2.out.setRow (by omega) (fun g hg => by have := HVB.out g hg; omega) _⟩, Frame1.of_below (below_setRow hB2.out _ (by omega) _)⟩
  · have HI := hidp hi
    clear hi
    unfold Cur.val
    obtain ⟨d, hd⟩ : ∃ d, d = L[j] := ⟨_, rfl⟩
    rw [← hd]
    have HD := hidp hd
    clear hd
    go_wp2_with (first
      | (with_reducible refine wpList_store_row rfl 34 (.tmp 8) (.tmp 15) rfl w1.heap.size d.cells.toArray rfl rfl 34 _ (heap_alloc_new w1 _) (by rw [List.size_toArray, Cur.len]; exact Try.info34) rfl (all_one d) ?_
         rw [World.setRow_alloc_new]
         have K2 := hidp (heap_alloc_old' w1 (.cells d.cells.toArray 34) K.out)
         have K3 := hidp (heap_alloc_new w1 (.cells d.cells.toArray 34))
         have B2 := (Below.refl w1.heap.size w1).alloc (Nat.le_refl _) (.cells d.cells.toArray 34)
         have k3 := hidp (below_cell B2 (Nat.le_refl _) _ _ k2.out)
         have hB2 := hidp (hB.out.trans (B2.mono hB.out.size))
         have HT2 := hidp (HT1.out.below B2 (Nat.le_refl _))
         have hs2 : w1.heap.size < (w1.alloc (.cells d.cells.toArray 34)).heap.size := by simp
         clear B2
         generalize w1.alloc (.cells d.cells.toArray 34) = w2 at K2 K3 hB2 HT2 k3 hs2 ⊢)
      | (go_at_call 28
         refine (gone_any' base b v L most life next 33 #[.pointer (some ⟨w.heap.size, 0, none⟩)] (fun c => c.id == n) w2 HT2.out hn e33.out (fun y W hW => ?_)).mono ?_
         · exact cl33 y w.heap.size n W (below_cell hW (Nat.le_refl _) _ _ k3.out)
         rintro e w3 ⟨o3, rfl, -, ⟨v3, hT3, hv3⟩, hF3⟩
         have hbs1 : w.heap.size + 1 < w1.heap.size := ltOf K.out
         have K4 : Hid (w3.heap[w.heap.size + 1]? = some (.cells zarr34 34 (0, 0))) := by
           show _ = _
           rw [hF3.block _ (by omega) (by omega)]; exact K2.out
         have K5 : Hid (w3.heap[w1.heap.size]? = some (.cells d.cells.toArray 34 (0, 0))) := by
           show _ = _
           rw [hF3.block _ hs2 (by omega)]; exact K3.out
         have HT3 := hidp (And.intro hT3 (And.intro hv3 hF3))
         clear hT3 hv3 hF3)
      | (with_reducible refine wpList_load_row rfl 34 (.tmp 8) rfl w1.heap.size rfl 34 d.cells.toArray (0, 0) _ K5.out Try.underlying34 rfl (by rw [List.size_toArray, Cur.len]; exact Try.info34) ?_)
      | (with_reducible refine wpList_store_row rfl 34 (.tmp 6) (.tmp 21) rfl (w.heap.size + 1) d.cells.toArray rfl rfl 34 _ K4.out (by rw [List.size_toArray, Cur.len]; exact Try.info34) rfl (all_one d) ?_))
    refine bodyPost_ret (results_cur rfl _ _ (w.heap.size + 1) d.cells.toArray rfl rfl (setRow_heap _ _ _ d.cells.toArray _ _ K4.out)) rfl ?_
    obtain ⟨hT3, hv3, hF3⟩ := HT3.out
    refine ⟨.inr ⟨j, hj, HI.out, by rw [← HD.out]; rfl, v3, hT3.setRow (by omega) (fun g hg => by have := hv3 g hg; omega) _⟩, ?_⟩
    have hB3 := hB2.out
    exact ⟨hF3.os.trans hB3.os, hF3.tape.trans hB3.tape, hF3.output.trans hB3.output, by simpa [World.setRow] using Nat.le_trans hB3.size hF3.size,
      fun k hk hkb => by rw [setRow_other _ _ _ _ (by omega), hF3.block k (by omega) hkb]; exact hB3.block k hk⟩
end Go.Proofs.Ytkmhdffkganhaaa
