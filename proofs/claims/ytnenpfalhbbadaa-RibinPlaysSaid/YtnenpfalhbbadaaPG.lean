/- A trie: top, Len, New, Get. -/
import Derived.Test.YtnenpfalhbbadaaPT
import Derived.Laws.ResultCell
import Derived.Deep.WholeRow
namespace Go.Proofs.Ytnenpfalhbbadaa
open Go.RowKit

structure TrieAt (wA w : World) (b : Nat) (t : Tr) (n : Int) : Prop where
  blk : w.heap[b]? = some (.cells #[t.ptr, .int .i64 n] 76 (0, 0))
  tree : t.at wA w
theorem TrieAt.below {wA w w' : World} {b : Nat} {t : Tr} {n : Int} (h : TrieAt wA w b t n) (hB : Below w.heap.size w w') : TrieAt wA w' b t n := ⟨heap_below hB h.blk (ltOf h.blk), h.tree.below hB⟩
theorem top_any (wA : World) (b : Nat) (t : Tr) (n : Int) (w : World) (h : TrieAt wA w b t n) : Calls Try.prog 40 #[.pointer (some ⟨b, 0, none⟩)] w fun e w' => e = .returned t.ptr ∧ w' = w := by
  obtain ⟨v, hv⟩ : ∃ v, v = t.ptr := ⟨_, rfl⟩
  have hb := h.blk
  rw [← hv] at hb
  rw [← hv]
  have c0 := cellOf hb 0 (v := v) rfl
  clear hb h hv
  go_enter Try.func40, Try.ntmps40
  go_wp2
  go_ret
  exact ⟨rfl, rfl⟩
theorem tlen_any (wA : World) (b : Nat) (t : Tr) (n : Int) (w : World) (h : TrieAt wA w b t n) : Calls Try.prog 19 #[.pointer (some ⟨b, 0, none⟩)] w fun e w' => e = .returned (.int .i64 n) ∧ w' = w := by
  have c1 := cellOf h.blk 1 (v := .int .i64 n) rfl
  clear h
  go_enter Try.func19, Try.ntmps19
  go_wp2
  go_ret
  exact ⟨rfl, rfl⟩
theorem tnew_any (wA w : World) : Calls Try.prog 25 #[] w fun e w' => (∃ b, e = .returned (.pointer (some ⟨b, 0, none⟩)) ∧ w.heap.size ≤ b ∧ TrieAt wA w' b .nil 0) ∧ Below w.heap.size w w' := by
  go_enter Try.func25, Try.ntmps25
  go_wp2
  go_ret
  exact ⟨⟨_, rfl, Nat.le_refl _, heap_alloc_new _ _, trivial⟩, by go_grown⟩
def getT (t : Tr) (p : Pf) : Att × Bool := match findT t p with
  | .node _ _ true v _ _ => (v, true)
  | _ => (att0, false)
theorem getT_at {wA w : World} {t : Tr} (h : t.at wA w) (p : Pf) : (getT t p).1.at wA := by
  have hf := findT_at p h
  unfold getT
  split
  · rename_i e
    rw [e] at hf
    exact hf.2.2.1
  · exact att0_at wA
theorem results_att {fn : Func} {p u : Tmp} (h : fn.results = #[.cell p 37, .tmp u]) (tmps : Array Value) (w : World) (g : Nat) (cs : Array Value) (hs : cs.size = 11) (hp : tmps.getD p undef = .pointer (some ⟨g, 0, none⟩)) (hg : w.heap[g]? = some (.cells cs 37 (0, 0))) :
    (results fn tmps).run Try.prog w = .ok (.tuple #[.agg cs, tmps.getD u undef]) w := by
  rw [results_cell_tmp h, hp]
  have := run_loadVar_row (P := Try.prog) w g 37 37 cs (0, 0) _ hg Try.underlying37 rfl (by rw [hs]; exact Try.info37)
  simp [asAddr, this, Result.andThen]
theorem below_setRow {B : Nat} {w w' : World} (h : Below B w w') (g : Nat) (hg : B ≤ g) (cs : Array Value) : Below B w (w'.setRow g cs) :=
  ⟨h.os, h.tape, h.output, by simpa [World.setRow] using h.size, fun k hk => by rw [setRow_other _ _ _ _ (by omega)]; exact h.block k hk⟩
theorem node_att {w : World} {b : Nat} {p : Pf} {hs : Bool} {v : Att} {vl vr : Value} (h : w.heap[b]? = some (.cells (nodeC p hs v vl vr).toArray 93 (0, 0))) : w.rangeAt b 3 v.cells := fun j x hx => by
  have hj : j < 11 := (List.getElem?_eq_some_iff.1 hx).1
  refine cellOf h (3 + j) ?_
  rw [Nat.add_comm]
  simp only [List.getElem?_toArray]
  show (v.cells ++ [vl, vr])[j]? = some x
  rw [List.getElem?_append_left (by show j < 11; exact hj)]
  exact hx
structure GetW (w W : World) (p : Pf) : Prop where
  box : W.heap[w.heap.size]? = some (.cells #[.int .u32 (p.a : Int), .int .i64 p.l] 44 (0, 0))
  res : W.heap[w.heap.size + 1]? = some (.cells att0.cells.toArray 37 (0, 0))
  non : W.heap[w.heap.size + 2]? = some (.cells att0.cells.toArray 37 (0, 0))
  bel : Below w.heap.size w W
set_option maxRecDepth 100000 in
set_option maxHeartbeats 4000000 in
theorem tget_any (wA : World) (b : Nat) (t : Tr) (n : Int) (p : Pf) (hp : p.ok) (w : World) (h : TrieAt wA w b t n) : Calls Try.prog 30 #[.pointer (some ⟨b, 0, none⟩), p.val] w fun e w' => e = .returned (.tuple #[(getT t p).1.val, .bool (getT t p).2]) ∧ Below w.heap.size w w' := by
  have hg : GetW w (((w.alloc (.cells #[.int .u32 (p.a : Int), .int .i64 p.l] 44)).alloc (.cells att0.cells.toArray 37)).alloc (.cells att0.cells.toArray 37)) p :=
    ⟨heap_alloc_at (heap_alloc_at (heap_alloc_new w _) _) _, heap_alloc_at (heap_alloc_top _ _ _ (by simp)) _, heap_alloc_top _ _ _ (by simp), (((Below.refl w.heap.size w).alloc (Nat.le_refl _) _).alloc (by simp) _).alloc (by simp; omega) _⟩
  have HG := hidp hg
  have HT := hidp (h.below hg.bel)
  clear h hg
  have hpv : p.val = .agg #[.int .u32 (p.a : Int), .int .i64 p.l] := rfl
  rw [hpv]
  have HPV := hidp hpv
  clear hpv
  go_enter Try.func30, Try.ntmps30
  go_upto_region 2 with (fail)
  change Code.wp Try.prog _ _ _ (((w.alloc (.cells #[.int .u32 (p.a : Int), .int .i64 p.l] 44)).alloc (.cells att0.cells.toArray 37)).alloc (.cells att0.cells.toArray 37))
  generalize ((w.alloc (.cells #[.int .u32 (p.a : Int), .int .i64 p.l] 44)).alloc (.cells att0.cells.toArray 37)).alloc (.cells att0.cells.toArray 37) = w0 at *
  have D0 := hidp (show ∀ W, Below w0.heap.size w0 W → W.cell? ⟨w.heap.size, 0, none⟩ = some (.int .u32 (p.a : Int)) from fun W hW => below_cell hW (Nat.le_refl _) _ _ (cellOf HG.out.box 0 rfl))
  have D1 := hidp (show ∀ W, Below w0.heap.size w0 W → W.cell? ⟨w.heap.size, 1, none⟩ = some (.int .i64 p.l) from fun W hW => below_cell hW (Nat.le_refl _) _ _ (cellOf HG.out.box 1 rfl))
  have hd0 : Below w0.heap.size w0 w0.drew := (Below.refl _ _).drew
  refine wp_region_flow2 (fun iqv => ([(.pointer (some ⟨b, 0, none⟩) : Value), (t.ptr : Value), (.agg #[.int .u32 (p.a : Int), .int .i64 p.l] : Value), ((findT t p).ptr : Value), ((findT t p).ptr : Value)] : List Value).getD iqv undef) [(some 8, .pointer (some ⟨b, 0, none⟩)), (some 9, t.ptr), (some 10, .agg #[.int .u32 (p.a : Int), .int .i64 p.l]), (some 11, (findT t p).ptr), (some 7, (findT t p).ptr)] (fun W : World => Below w0.heap.size w0 W) (by kernel_rfl) (by kernel_rfl) hd0 (fun iq hiq => ?_) (by kernel_rfl) (fun W hSW => ?_)
  · match iq, hiq with
    | 0, _ =>
      intro aq W hSW hf
      have v0 : aq.tmps[0]? = some (.pointer (some ⟨b, 0, none⟩)) := (hf.at_base 0 (by kernel_rfl)).trans rfl
      clear hf
      refine wpOp_flow rfl (by rfl) (fun Kq hK => ?_)
      go_simp
      exact hK _ _ ⟨rfl, hSW⟩
    | 1, _ =>
      intro aq W hSW hf
      have v8 : aq.tmps[8]? = some (.pointer (some ⟨b, 0, none⟩)) := hf.val 0 8 (by kernel_rfl) rfl
      clear hf
      refine wpOp_flow rfl (by rfl) (fun Kq hK => ?_)
      go_simp
      refine (top_any wA b t n _ (HT.out.below hSW)).mono ?_
      rintro e w19 ⟨rfl, rfl⟩
      exact hK _ _ ⟨rfl, hSW⟩
    | 2, _ =>
      intro aq W hSW hf
      have v3 : aq.tmps[3]? = some (.pointer (some ⟨w.heap.size, 0, none⟩)) := (hf.at_base 3 (by kernel_rfl)).trans rfl
      clear hf
      refine wpOp_flow rfl (by rfl) (fun Kq hK => ?_)
      have d0 := D0.out W hSW
      have d1 := D1.out W hSW
      go_simp
      exact hK _ _ ⟨rfl, hSW⟩
    | 3, _ =>
      intro aq W hSW hf
      have v9 : aq.tmps[9]? = some (t.ptr) := hf.val 1 9 (by kernel_rfl) rfl
      have v10 : aq.tmps[10]? = some (.agg #[.int .u32 (p.a : Int), .int .i64 p.l]) := hf.val 2 10 (by kernel_rfl) rfl
      clear hf
      refine wpOp_flow rfl (by rfl) (fun Kq hK => ?_)
      go_simp
      refine (find_any wA t p hp _ (HT.out.tree.below hSW)).mono ?_
      rintro e w19 ⟨rfl, B19⟩
      exact hK _ _ ⟨rfl, hSW.trans (B19.mono hSW.size)⟩
    | 4, _ =>
      intro aq W hSW hf
      have v11 : aq.tmps[11]? = some ((findT t p).ptr) := hf.val 3 11 (by kernel_rfl) rfl
      clear hf
      refine wpOp_flow rfl (by rfl) (fun Kq hK => ?_)
      go_simp
      exact hK _ _ ⟨rfl, hSW⟩
    | kq + 5, hk => exact absurd hk (by first | omega | (intro h; simp at h; omega))
  · simp only [puts, Act.put, List.setIfInBounds_toArray, List.set_cons_zero, List.set_cons_succ]
    obtain ⟨w1, rfl⟩ : ∃ w1, w1 = W := ⟨_, rfl⟩
    have HB1 := hidp hSW
    have hf := findT_at p (HT.out.tree.below hSW)
    have hgt : getT t p = match findT t p with | .node _ _ true v _ _ => (v, true) | _ => (att0, false) := rfl
    have K1 := hidp (heap_below hSW HG.out.res (ltOf HG.out.res))
    have K2 := hidp (heap_below hSW HG.out.non (ltOf HG.out.non))
    have HBW := hidp (HG.out.bel.trans (hSW.mono HG.out.bel.size))
    clear hSW
    generalize findT t p = s at *
    have none_case : ∀ (w1 : World), True := fun _ => trivial
    clear none_case
    have HGT := hidp hgt
    clear hgt
    have hi37 : Hid ((Try.prog.info? 37).map (·.size) = some att0.cells.toArray.size) := Try.info37
    cases s with
    | nil =>
      have hv : (Tr.nil).ptr = .pointer none := rfl
      rw [hv]
      have hr : getT t p = (att0, false) := HGT.out
      have HR := hidp hr
      clear hr hv hf
      go_wp2_with (first
        | (with_reducible refine wpList_load_row rfl 37 (.tmp 6) rfl (w.heap.size + 2) rfl 37 att0.cells.toArray (0, 0) _ K2.out Try.underlying37 rfl hi37.out ?_)
        | (with_reducible refine wpList_store_row rfl 37 (.tmp 4) (.tmp 21) rfl (w.heap.size + 1) att0.cells.toArray rfl rfl 37 _ K1.out hi37.out rfl (Att.all_one att0) ?_))
      refine bodyPost_ret (results_att rfl _ _ (w.heap.size + 1) att0.cells.toArray rfl rfl (setRow_heap _ _ _ _ _ _ K1.out)) rfl ?_
      exact ⟨by rw [HR.out]; rfl, below_setRow HBW.out _ (by omega) _⟩
    | node fb q hs vv l r =>
      have hv : (Tr.node fb q hs vv l r).ptr = .pointer (some ⟨fb, 0, none⟩) := rfl
      rw [hv]
      have c2 := cellOf hf.1 2 (v := .bool hs) rfl
      have HR3 := hidp (show w1.rangeAt fb 3 vv.cells from node_att hf.1)
      have hi37v : Hid ((Try.prog.info? 37).map (·.size) = some vv.cells.length) := Try.info37
      have hi37w : Hid ((Try.prog.info? 37).map (·.size) = some vv.cells.toArray.size) := Try.info37
      clear hv hf
      cases hs with
      | true =>
        have hr : getT t p = (vv, true) := HGT.out
        have HR := hidp hr
        clear hr
        go_wp2_with (first
          | (with_reducible refine wpList_load_mid rfl 37 (.tmp 24) rfl fb 3 rfl vv.cells _ HR3.out Try.underlying37 rfl hi37v.out ?_)
          | (with_reducible refine wpList_store_row rfl 37 (.tmp 4) (.tmp 25) rfl (w.heap.size + 1) vv.cells.toArray rfl rfl 37 _ K1.out hi37w.out rfl vv.all_one ?_))
        refine bodyPost_ret (results_att rfl _ _ (w.heap.size + 1) vv.cells.toArray rfl rfl (setRow_heap _ _ _ _ _ _ K1.out)) rfl ?_
        exact ⟨by rw [HR.out]; rfl, below_setRow HBW.out _ (by omega) _⟩
      | false =>
        have hr : getT t p = (att0, false) := HGT.out
        have HR := hidp hr
        clear hr
        go_wp2_with (first
          | (with_reducible refine wpList_load_row rfl 37 (.tmp 6) rfl (w.heap.size + 2) rfl 37 att0.cells.toArray (0, 0) _ K2.out Try.underlying37 rfl hi37.out ?_)
          | (with_reducible refine wpList_store_row rfl 37 (.tmp 4) (.tmp 21) rfl (w.heap.size + 1) att0.cells.toArray rfl rfl 37 _ K1.out hi37.out rfl (Att.all_one att0) ?_))
        refine bodyPost_ret (results_att rfl _ _ (w.heap.size + 1) att0.cells.toArray rfl rfl (setRow_heap _ _ _ _ _ _ K1.out)) rfl ?_
        exact ⟨by rw [HR.out]; rfl, below_setRow HBW.out _ (by omega) _⟩
end Go.Proofs.Ytnenpfalhbbadaa
