/- The document's Move. -/
import Derived.Test.YtkmhdffkganhaaaCL
namespace Go.Proofs.Ytkmhdffkganhaaa
open Go.RowKit

def mvC (o n x y : Int) (c : Cur) : Cur := if isAt o n c = true then c.moved x y else c
set_option maxHeartbeats 4000000 in
theorem doc_move (base d : Nat) (a : Option Addr) (c : Nat) (L : List Cur) (most life last o n x y : Int) (w : World) (h : DocIs w base d a c L most life last) (hn : L.length ≤ 1000) :
    Calls Try.prog 23 #[.pointer (some ⟨d, 0, none⟩), .int .i64 o, .int .i64 n, .agg #[.int .u32 x, .int .i64 y]] w fun e w' => e = .returned (.bool (L.any (isAt o n))) ∧ (∃ a' c', DocIs w' base d a' c' (L.map (mvC o n x y)) most life last) ∧ Frame1 d w w' := by
  have hB0 := (Below.refl w.heap.size w).alloc (Nat.le_refl _) (.cells #[.int .u32 x, .int .i64 y] 29)
  have H := hidp (h.below hB0)
  have hd := ltOf h.blk
  have k0 := heap_alloc_new w (.cells #[.int .u32 x, .int .i64 y] 29)
  have hs0 := ltOf k0
  have K0 := hidp k0
  have HB0 := hidp hB0
  clear h hB0 k0
  go_enter Try.func23, Try.ntmps23
  go_upto_region 1 with (fail)
  change Code.wp Try.prog _ _ _ (w.alloc (.cells #[.int .u32 x, .int .i64 y] 29))
  generalize w.alloc (.cells #[.int .u32 x, .int .i64 y] 29) = w0 at *
  go_wp2
  go_loopw [9, 10, 11] (fun s x' i wr => ∃ j : Nat, j ≤ L.length ∧ i = .int .i64 j ∧ s = .bool ((L.take j).any (isAt o n)) ∧ AccR w0 x' ((L.take j).map (mvC o n x y)) wr) (fun _ _ i _ => L.length - (intOf i).toNat)
  case atStart => exact ⟨0, by omega, rfl, rfl, World.ownsRow_nil _ _ _ _, Below.refl _ _⟩
  case round =>
    obtain ⟨j, hj, rfl, rfl, hG⟩ := hrel
    obtain ⟨w1, rfl⟩ : ∃ w1, w1 = wr := ⟨_, rfl⟩
    have HG := hidp hG
    have hD := H.out.below hG.bel
    have c3 := cellOf hD.blk 3 (v := .slice a L.length c) rfl
    have hd1 := ltOf hD.blk
    have KB := heap_below hG.bel K0.out hs0
    have b0 := cellOf KB 0 (v := .int .u32 x) rfl
    have b1 := cellOf KB 1 (v := .int .i64 y) rfl
    have hsb := ltOf KB
    clear hG
    by_cases hlt : j < L.length
    · have l1 : (j : Int) < (L.length : Int) := by omega
      obtain ⟨g, off, rfl, hr⟩ := hD.row (by omega)
      have hrj := hr j hlt
      have htm := take_map (mvC o n x y) hlt
      have hta := take_any (isAt o n) hlt
      generalize L[j] = q at *
      obtain ⟨s, hs⟩ : ∃ s, s = (L.take j).any (isAt o n) := ⟨_, rfl⟩
      rw [← hs] at hta
      rw [← hs]
      have HTM := hidp htm
      have HTA := hidp hta
      have HRJ := hidp hrj
      have hlen : q.cells.length = 16 := Cur.len q
      have hq53 : Hid ((Try.prog.info? 53).map (·.size) = some q.cells.length) := Try.info53c q
      have hq53' : Hid ((Try.prog.info? 53).map (·.size) = some q.cells.toArray.size) := Try.info53c q
      have hml : ((L.take j).map (mvC o n x y)).length ≤ 1000 := by simp; omega
      have HML := hidp hml
      have hia : isAt o n q = (q.id == n && q.owner == o) := rfl
      clear hr hrj htm hta hD hml hs
      go_upto_region 7 with (first
        | (with_reducible refine wpList_load_mid rfl 53 (.tmp 27) rfl g (off + j * 16) rfl q.cells _ HRJ.out Try.underlying53 rfl hq53.out ?_)
        | (with_reducible refine wpList_store_row rfl 53 (.tmp 12) (.tmp 28) rfl w1.heap.size q.cells.toArray rfl rfl 53 _ (heap_alloc_new w1 _) hq53'.out rfl (all_one q) ?_
           rw [World.setRow_alloc_new]
           have hB2 : Below w1.heap.size w1 (w1.alloc (.cells q.cells.toArray 53)) := (Below.refl _ _).alloc (Nat.le_refl _) _
           have hK2 := heap_alloc_new w1 (.cells q.cells.toArray 53)
           generalize w1.alloc (.cells q.cells.toArray 53) = w2 at *
           have d0 := cellOf hK2 0 (v := .int .i64 q.id) rfl
           have d1 := cellOf hK2 1 (v := .int .i64 q.owner) rfl
           have d13 := cellOf hK2 13 (v := .int .u32 q.aa) rfl
           have d14 := cellOf hK2 14 (v := .int .i64 q.al) rfl
           have d15 := cellOf hK2 15 (v := .int .i64 q.age) rfl
           have f13 := frozenOf hK2 13
           have f14 := frozenOf hK2 14
           have f15 := frozenOf hK2 15
           have e0 := below_cell hB2 (Nat.le_refl _) _ _ b0
           have e1 := below_cell hB2 (Nat.le_refl _) _ _ b1
           have hs2 := ltOf hK2
           have H2 := hidp (And.intro hB2 hK2)
           clear hB2 hK2 b0 b1))
      by_cases hm : isAt o n q = true
      · have hmv : mvC o n x y q = q.moved x y := by unfold mvC; rw [if_pos hm]
        have l2 : (q.id == n) = true := by rw [hia, Bool.and_eq_true] at hm; exact hm.1
        have l3 : (q.owner == o) = true := by rw [hia, Bool.and_eq_true] at hm; exact hm.2
        rw [hm] at HTA
        rw [hmv] at HTM
        clear hm hmv hia
        go_upto_region 9 with (fail)
        have hk3 : ((w2.setCell ⟨w1.heap.size, 13, none⟩ (.int .u32 x)).setCell ⟨w1.heap.size, 14, none⟩ (.int .i64 y)).heap[w1.heap.size]? = some (.cells ((q.cells.toArray.setIfInBounds 13 (.int .u32 x)).setIfInBounds 14 (.int .i64 y)) 53 (0, 0)) := heap_setCell_same (heap_setCell_same H2.out.2 13 _) 14 _
        have hb3 : Below w1.heap.size w1 ((w2.setCell ⟨w1.heap.size, 13, none⟩ (.int .u32 x)).setCell ⟨w1.heap.size, 14, none⟩ (.int .i64 y)) := (H2.out.1.setCell (Nat.le_refl _) _).setCell (Nat.le_refl _) _
        generalize (w2.setCell ⟨w1.heap.size, 13, none⟩ (.int .u32 x)).setCell ⟨w1.heap.size, 14, none⟩ (.int .i64 y) = wA at *
        have dA := cellOf hk3 15 (v := .int .i64 q.age) rfl
        have fA := frozenOf hk3 15
        have HA := hidp (And.intro hk3 hb3)
        clear hk3 hb3 d0 d1 d13 d14 d15 f13 f14 f15 e0 e1
        go_upto_region 11 with (fail)
        have hk3 : (wA.setCell ⟨w1.heap.size, 15, none⟩ (.int .i64 0)).heap[w1.heap.size]? = some (.cells (q.moved x y).cells.toArray 53 (0, 0)) := heap_setCell_same HA.out.1 15 _
        have hb3 : Below w1.heap.size w1 (wA.setCell ⟨w1.heap.size, 15, none⟩ (.int .i64 0)) := HA.out.2.setCell (Nat.le_refl _) _
        generalize wA.setCell ⟨w1.heap.size, 15, none⟩ (.int .i64 0) = w3 at *
        obtain ⟨z, hz⟩ : ∃ z, z = q.moved x y := ⟨_, rfl⟩
        rw [← hz] at hk3 HTM
        have HG3 := hidp (AccR.mk (HG.out.out.below hb3) (HG.out.bel.trans (hb3.mono HG.out.bel.size)))
        have K3 := hidp hk3
        clear hk3 hb3 hz dA fA
        have hz53 : Hid ((Try.prog.info? 53).map (·.size) = some z.cells.toArray.size) := Try.info53c z
        have hlen2 : z.cells.length = 16 := Cur.len z
        go_wp2_with (first
          | (with_reducible refine wpList_load_row rfl 53 (.tmp 12) rfl w1.heap.size rfl 53 z.cells.toArray (0, 0) _ K3.out Try.underlying53 rfl hz53.out ?_)
          | (at_builtin
             rw [fold16]
             refine wpList_appC w0 w3 rfl (.tmp 42) (.tmp 44) rfl w0.heap.size u10 _ rfl HG3.out.out z rfl HML.out HG3.out.bel HG3.out.bel.size ?_
             intro v' w4 h1 h2
             have h1' : OutD w4 w0.heap.size v' ((L.take (j + 1)).map (mvC o n x y)) := by rw [HTM.out]; exact h1
             have H4 := hidp (AccR.mk h1' h2)
             clear h1 h2 h1'))
        go_roundw
        case rel => exact ⟨j + 1, by omega, by go_num, by rw [HTA.out]; simp, H4.out⟩
        case measure => simp [intOf]; omega
      · have hm' : isAt o n q = false := by simpa using hm
        have hmv : mvC o n x y q = q := by unfold mvC; rw [if_neg hm]
        rw [hm'] at HTA
        rw [hmv] at HTM
        by_cases hid : q.id = n
        · have l2 : (q.id == n) = true := by simpa using hid
          have l3 : (q.owner == o) = false := by rw [hia, l2, Bool.true_and] at hm'; exact hm'
          clear hm hm' hmv hia hid
          go_upto_region 11 with (fail)
          obtain ⟨w3, rfl⟩ : ∃ w3, w3 = w2 := ⟨_, rfl⟩
          have HG3 := hidp (AccR.mk (HG.out.out.below H2.out.1) (HG.out.bel.trans (H2.out.1.mono HG.out.bel.size)))
          have K3 := hidp H2.out.2
          obtain ⟨z, rfl⟩ : ∃ z, z = q := ⟨_, rfl⟩
          clear d0 d1 d13 d14 d15 f13 f14 f15 e0 e1 hlen
          have hz53 : Hid ((Try.prog.info? 53).map (·.size) = some z.cells.toArray.size) := Try.info53c z
          have hlen2 : z.cells.length = 16 := Cur.len z
          go_wp2_with (first
            | (with_reducible refine wpList_load_row rfl 53 (.tmp 12) rfl w1.heap.size rfl 53 z.cells.toArray (0, 0) _ K3.out Try.underlying53 rfl hz53.out ?_)
            | (at_builtin
               rw [fold16]
               refine wpList_appC w0 w3 rfl (.tmp 42) (.tmp 44) rfl w0.heap.size u10 _ rfl HG3.out.out z rfl HML.out HG3.out.bel HG3.out.bel.size ?_
               intro v' w4 h1 h2
               have h1' : OutD w4 w0.heap.size v' ((L.take (j + 1)).map (mvC o n x y)) := by rw [HTM.out]; exact h1
               have H4 := hidp (AccR.mk h1' h2)
               clear h1 h2 h1'))
          go_roundw
          case rel => exact ⟨j + 1, by omega, by go_num, by rw [HTA.out]; simp, H4.out⟩
          case measure => simp [intOf]; omega
        · have l2 : (q.id == n) = false := by simpa using hid
          clear hm hm' hmv hia hid
          go_upto_region 11 with (fail)
          obtain ⟨w3, rfl⟩ : ∃ w3, w3 = w2 := ⟨_, rfl⟩
          have HG3 := hidp (AccR.mk (HG.out.out.below H2.out.1) (HG.out.bel.trans (H2.out.1.mono HG.out.bel.size)))
          have K3 := hidp H2.out.2
          obtain ⟨z, rfl⟩ : ∃ z, z = q := ⟨_, rfl⟩
          clear d0 d1 d13 d14 d15 f13 f14 f15 e0 e1 hlen
          have hz53 : Hid ((Try.prog.info? 53).map (·.size) = some z.cells.toArray.size) := Try.info53c z
          have hlen2 : z.cells.length = 16 := Cur.len z
          go_wp2_with (first
            | (with_reducible refine wpList_load_row rfl 53 (.tmp 12) rfl w1.heap.size rfl 53 z.cells.toArray (0, 0) _ K3.out Try.underlying53 rfl hz53.out ?_)
            | (at_builtin
               rw [fold16]
               refine wpList_appC w0 w3 rfl (.tmp 42) (.tmp 44) rfl w0.heap.size u10 _ rfl HG3.out.out z rfl HML.out HG3.out.bel HG3.out.bel.size ?_
               intro v' w4 h1 h2
               have h1' : OutD w4 w0.heap.size v' ((L.take (j + 1)).map (mvC o n x y)) := by rw [HTM.out]; exact h1
               have H4 := hidp (AccR.mk h1' h2)
               clear h1 h2 h1'))
          go_roundw
          case rel => exact ⟨j + 1, by omega, by go_num, by rw [HTA.out]; simp, H4.out⟩
          case measure => simp [intOf]; omega
    · have l1 : ¬ (j : Int) < (L.length : Int) := by omega
      have ht : L.take j = L := List.take_of_length_le (by omega)
      rw [ht] at HG
      rw [ht]
      have f3 := frozenOf hD.blk 3
      have D := hidp hD
      obtain ⟨ao, co, hao⟩ := HG.out.len
      rw [List.length_map] at hao
      subst hao
      clear hD ht b0 b1
      go_wp2
      go_ret
      have hO := HG.out.out
      have hB := HB0.out.trans (HG.out.bel.mono HB0.out.size)
      exact ⟨rfl, ⟨_, _, DocIs.put (w := w1) D.out (Below.refl _ _) hO⟩, (Frame1.of_below hB).trans (Frame1.setCell w1 3 _)⟩
end Go.Proofs.Ytkmhdffkganhaaa
