/- The document's table: New, Get. -/
import Derived.Test.YtkmhdffkganhaaaCE
namespace Go.Proofs.Ytkmhdffkganhaaa
open Go.RowKit

/-- Block d is the document's table of the cursors L. -/
structure DocIs (w : World) (base d : Nat) (a : Option Addr) (c : Nat) (L : List Cur) (most life last : Int) : Prop where
  blk : w.heap[d]? = some (.cells #[.int .i64 most, .int .i64 life, .int .i64 last, .slice a L.length c] 62 (0, 0))
  row : RowC w a L
  typ : 0 < L.length → ∀ ad, a = some ad → ∃ C, w.heap[ad.block]? = some (.cells C 53 (0, 0))
  hb : base ≤ d
theorem DocIs.of_heap {w w' : World} {base d : Nat} {a : Option Addr} {c : Nat} {L : List Cur} {most life last : Int} (h : DocIs w base d a c L most life last) (h1 : w'.heap[d]? = w.heap[d]?)
    (h2 : ∀ (k : Nat) (C : Array Value), w.heap[k]? = some (.cells C 53 (0, 0)) → w'.heap[k]? = w.heap[k]?) : DocIs w' base d a c L most life last := by
  refine ⟨by rw [h1]; exact h.blk, fun hp => ?_, fun hp ad had => ?_, h.hb⟩
  · obtain ⟨g, o, e, hr⟩ := h.row hp
    obtain ⟨C, hC⟩ := h.typ hp _ e
    refine ⟨g, o, e, fun i hi j v hv => ?_⟩
    have := hr i hi j v hv
    rw [← this]
    exact cell_same (h2 _ _ hC)
  · obtain ⟨C, hC⟩ := h.typ hp ad had
    exact ⟨C, by rw [h2 _ _ hC]; exact hC⟩
theorem DocIs.below {w w' : World} {base d : Nat} {a : Option Addr} {c : Nat} {L : List Cur} {most life last : Int} (h : DocIs w base d a c L most life last) (hB : Below w.heap.size w w') : DocIs w' base d a c L most life last :=
  h.of_heap (hB.block _ (ltOf h.blk)) fun _ _ hC => hB.block _ (ltOf hC)
/-- what the program does to its table leaves the document's -/
theorem DocIs.frameV {w w' : World} {base d : Nat} {a : Option Addr} {c : Nat} {L : List Cur} {most life last : Int} (h : DocIs w base d a c L most life last)
    {base' b : Nat} {v : Value} {L' : List Cur} {m' l' n' : Int} (T : TabIs w base' b v L' m' l' n') (F : FrameV b v w w') : DocIs w' base d a c L most life last := by
  have hk : ∀ (k : Nat) (C : Array Value) (t : TypeId), (t = 62 ∨ t = 53) → w.heap[k]? = some (.cells C t (0, 0)) → w'.heap[k]? = w.heap[k]? := fun k C t ht hC =>
    F.block _ (ltOf hC) (by intro e; rw [e, T.blk] at hC; cases hC; simp at ht) (fun e => by
      obtain ⟨_, c, hc⟩ := ownsRow_block T.own _ e
      rw [hc] at hC; cases hC; simp at ht)
  exact h.of_heap (hk _ _ _ (.inl rfl) h.blk) fun _ _ hC => hk _ _ _ (.inr rfl) hC
/-- and what the document does to its table leaves the program's -/
theorem TabIs.frame1 {w w' : World} {base d : Nat} {a : Option Addr} {c : Nat} {L : List Cur} {most life last : Int} (h : DocIs w base d a c L most life last)
    {base' b : Nat} {v : Value} {L' : List Cur} {m' l' n' : Int} (T : TabIs w base' b v L' m' l' n') (F : Frame1 d w w') : TabIs w' base' b v L' m' l' n' :=
  ⟨by rw [F.block _ (ltOf T.blk) (by intro e; have := T.blk; rw [e, h.blk] at this; cases this)]; exact T.blk,
   ownsRow_of_heap T.own fun g hg => by
    obtain ⟨_, cu, hc⟩ := ownsRow_block T.own g hg
    exact F.block _ (ltOf hc) (by intro e; rw [e, h.blk] at hc; cases hc), T.hb⟩
theorem SrcT.frame1 {w w' : World} {aa : Option Addr} {n base d : Nat} {xs : List Value} {a : Option Addr} {c : Nat} {L : List Cur} {most life last : Int} (h : SrcT w aa n xs) (D : DocIs w base d a c L most life last) (F : Frame1 d w w') : SrcT w' aa n xs := by
  have hk : ∀ ad, aa = some ad → 0 < n → ad.block < w.heap.size → w'.heap[ad.block]? = w.heap[ad.block]? := fun ad had hp hl => by
    obtain ⟨C, hC⟩ := h.2 hp ad had
    exact F.block _ hl (by intro e; rw [e, D.blk] at hC; cases hC)
  exact h.of_heap hk

theorem doc_new (most life : Int) (w : World) : Calls Try.prog 17 #[.int .i64 most, .int .i64 life] w fun e w' => ∃ d, e = .returned (.pointer (some ⟨d, 0, none⟩)) ∧ DocIs w' w.heap.size d none 0 [] (capM most) (capL life) 0 ∧ Below w.heap.size w w' := by
  have hM : (most < 0 ∧ Hid (capM most = 0)) ∨ ((0 ≤ most ∧ 8 < most) ∧ Hid (capM most = 8)) ∨ ((0 ≤ most ∧ most ≤ 8) ∧ Hid (capM most = most)) := by
    unfold Hid capM
    split
    · exact .inl ⟨by omega, rfl⟩
    · split
      · exact .inr (.inl ⟨by omega, rfl⟩)
      · exact .inr (.inr ⟨by omega, rfl⟩)
  have hL : (life < 1 ∧ Hid (capL life = 1)) ∨ (1 ≤ life ∧ Hid (capL life = life)) := by
    unfold Hid capL
    split
    · exact .inl ⟨by omega, rfl⟩
    · exact .inr ⟨by omega, rfl⟩
  rcases hM with ⟨h, hc⟩ | ⟨⟨h, h2⟩, hc⟩ | ⟨⟨h, h2⟩, hc⟩
  all_goals
   rcases hL with ⟨k, kc⟩ | ⟨k, kc⟩
   all_goals
    go_enter Try.func17, Try.ntmps17
    go_wp2
    go_ret
    refine ⟨_, rfl, ⟨?_, fun hp => absurd hp (by simp), fun hp => absurd hp (by simp), Nat.le_refl _⟩, by go_grown⟩
    rw [hc.out, kc.out]
    try simp only [heap_setCell_same (heap_alloc_new _ _)]
    first
      | exact heap_alloc_new _ _
      | exact heap_setCell_same (heap_alloc_new _ _) _ _
      | exact heap_setCell_same (heap_setCell_same (heap_alloc_new _ _) _ _) _ _


theorem results_cur53 {fn : Func} {p u : Tmp} (h : fn.results = #[.cell p 53, .tmp u]) (tmps : Array Value) (w : World) (g : Nat) (cs : Array Value) (hs : cs.size = 16) (hp : tmps.getD p undef = .pointer (some ⟨g, 0, none⟩)) (hg : w.heap[g]? = some (.cells cs 53 (0, 0))) :
    (results fn tmps).run Try.prog w = .ok (.tuple #[.agg cs, tmps.getD u undef]) w := by
  rw [results_cell_tmp h, hp]
  have := run_loadVar_row (P := Try.prog) w g 53 53 cs (0, 0) _ hg Try.underlying53 rfl (by rw [hs]; exact Try.info53)
  simp [asAddr, this, Result.andThen]
theorem isAt_eq {o n : Int} {c : Cur} : isAt o n c = (c.id == n && c.owner == o) := rfl
structure GetR (q : Nat) (w0 w : World) : Prop where
  box : w.heap[q]? = some (.cells zarr34 53 (0, 0))
  bel : Below w0.heap.size w0 w

set_option maxHeartbeats 2000000 in
theorem doc_get (base d : Nat) (a : Option Addr) (c : Nat) (L : List Cur) (most life last o n : Int) (w : World) (h : DocIs w base d a c L most life last) (hn : L.length ≤ 1000) :
    Calls Try.prog 21 #[.pointer (some ⟨d, 0, none⟩), .int .i64 o, .int .i64 n] w fun e w' =>
      ((idxC (isAt o n) L = -1 ∧ e = .returned (.tuple #[.agg zarr34, .bool false])) ∨ (∃ (j : Nat) (h : j < L.length), idxC (isAt o n) L = j ∧ e = .returned (.tuple #[L[j].val, .bool true]))) ∧ Below w.heap.size w w' := by
  have hB0 := (Below.refl w.heap.size w).alloc (Nat.le_refl _) (.cells zarr34 53)
  have H := hidp (h.below hB0)
  have H0 := hidp (GetR.mk (heap_alloc_new w (.cells zarr34 53)) hB0)
  have hz : Hid ((Try.prog.info? 53).map (·.size) = some zarr34.size) := Try.info53
  clear h hB0
  go_enter Try.func21, Try.ntmps21
  go_upto_region 1 with (fail)
  change Code.wp Try.prog _ _ _ (w.alloc (.cells zarr34 53))
  generalize w.alloc (.cells zarr34 53) = w0 at *
  go_wp2
  go_loopw [8] (fun i wr => ∃ j : Nat, j ≤ L.length ∧ i = .int .i64 j ∧ (∀ t (_ : t < j) (h' : t < L.length), isAt o n L[t] = false) ∧ GetR w.heap.size w wr ∧ Below w0.heap.size w0 wr) (fun i _ => L.length - (intOf i).toNat)
  case atStart => exact ⟨0, by omega, rfl, fun t ht => absurd ht (by omega), H0.out, Below.refl _ _⟩
  case round =>
    obtain ⟨j, hj, rfl, hF, hG, hB⟩ := hrel
    obtain ⟨w1, rfl⟩ : ∃ w1, w1 = wr := ⟨_, rfl⟩
    have hD := H.out.below hB
    have c3 := cellOf hD.blk 3 (v := .slice a L.length c) rfl
    have HF := hidp hF
    have HG := hidp hG
    have HB := hidp hB
    clear hF hG hB
    by_cases hlt : j < L.length
    · have l1 : (j : Int) < (L.length : Int) := by omega
      obtain ⟨g, off, rfl, hr⟩ := hD.row (by omega)
      have hrj := hr j hlt
      have c0 := hrj 0 (.int .i64 L[j].id) rfl
      have c1 := hrj 1 (.int .i64 L[j].owner) rfl
      rw [Nat.add_zero] at c0
      have HR := hidp hrj
      clear hr hrj hD
      have hia : isAt o n L[j] = (L[j].id == n && L[j].owner == o) := rfl
      have hci : Hid (∀ (_ : isAt o n L[j] = true), idxC (isAt o n) L = j) := fun h => idxC_hit _ L j hlt h HF.out
      have hcf : Hid (isAt o n L[j] = false → ∀ t (_ : t < j + 1) (h' : t < L.length), isAt o n L[t] = false) := fun h t ht h' => by
        by_cases htj : t = j
        · subst htj; exact h
        · exact HF.out t (by omega) h'
      have HV : Hid (∀ (_ : isAt o n L[j] = true), (idxC (isAt o n) L = -1 ∧ Ending.returned (.tuple #[.agg L[j].cells.toArray, .bool true]) = .returned (.tuple #[.agg zarr34, .bool false])) ∨ (∃ (j' : Nat) (h : j' < L.length), idxC (isAt o n) L = j' ∧ Ending.returned (.tuple #[.agg L[j].cells.toArray, .bool true]) = .returned (.tuple #[L[j'].val, .bool true]))) := fun h => .inr ⟨j, hlt, hci.out h, rfl⟩
      generalize L[j] = x at *
      have hx53 : Hid ((Try.prog.info? 53).map (·.size) = some x.cells.length) := Try.info53c x
      have hx53' : Hid ((Try.prog.info? 53).map (·.size) = some x.cells.toArray.size) := Try.info53c x
      by_cases hid : x.id = n
      · have l2 : (x.id == n) = true := by simpa using hid
        by_cases how : x.owner = o
        · have l3 : (x.owner == o) = true := by simpa using how
          have HT := hidp (show isAt o n x = true by rw [hia, l2, l3]; rfl)
          clear hia hid how
          go_wp2_with (first
            | (with_reducible refine wpList_load_mid rfl 53 (.tmp 45) rfl g (off + j * 16) rfl x.cells _ HR.out Try.underlying53 rfl hx53.out ?_)
            | (with_reducible refine wpList_store_row rfl 53 (.tmp 6) (.tmp 46) rfl w.heap.size x.cells.toArray rfl rfl 53 _ HG.out.box hx53'.out rfl (all_one x) ?_))
          refine bodyPost_ret (results_cur53 rfl _ _ w.heap.size x.cells.toArray rfl rfl (setRow_heap _ _ _ _ _ _ HG.out.box)) rfl ?_
          exact ⟨HV.out HT.out, below_setRow HG.out.bel _ (Nat.le_refl _) _⟩
        · have l3 : (x.owner == o) = false := by simpa using how
          have HT := hidp (hcf.out (by rw [hia, l2, l3]; rfl))
          clear hia hid how
          go_wp2
          go_roundw
          case rel => exact ⟨j + 1, by omega, by go_num, HT.out, HG.out, HB.out⟩
          case measure => simp [intOf]; omega
      · have l2 : (x.id == n) = false := by simpa using hid
        have HT := hidp (hcf.out (by rw [hia, l2]; rfl))
        clear hia hid
        go_wp2
        go_roundw
        case rel => exact ⟨j + 1, by omega, by go_num, HT.out, HG.out, HB.out⟩
        case measure => simp [intOf]; omega
    · have l1 : ¬ (j : Int) < (L.length : Int) := by omega
      have HN := hidp (idxC_none (isAt o n) L (fun t h => HF.out t (by omega) h))
      clear hD
      go_wp2_with (first
        | (with_reducible refine wpList_store_row rfl 53 (.tmp 6) (.tmp 47) rfl w.heap.size zarr34 rfl rfl 53 _ HG.out.box hz.out rfl zarr_one ?_))
      refine bodyPost_ret (results_cur53 rfl _ _ w.heap.size zarr34 rfl rfl (setRow_heap _ _ _ _ _ _ HG.out.box)) rfl ?_
      exact ⟨.inl ⟨HN.out, rfl⟩, below_setRow HG.out.bel _ (Nat.le_refl _) _⟩
end Go.Proofs.Ytkmhdffkganhaaa
