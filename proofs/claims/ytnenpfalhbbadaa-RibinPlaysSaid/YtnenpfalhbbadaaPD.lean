/- A trie: del. -/
import Derived.Test.YtnenpfalhbbadaaPL
import Derived.Test.YtnenpfalhbbadaaFlowU
namespace Go.Proofs.Ytnenpfalhbbadaa
open Go.RowKit

theorem alloc_fill (W : World) {k : Nat} (hk : k = W.heap.size) {z C : Array Value} {e : TypeId} : (W.alloc (.cells z e)).setRow k C = W.alloc (.cells C e) := by
  subst hk
  exact World.setRow_alloc_new _ _ _ _
def findA : Ab → Pf → Ab
  | .nil, _ => .nil
  | .node q h v l r, p => if samePf q p = true then .node q h v l r else if coversF q p = true then (if sideF q p = 0 then findA l p else findA r p) else .nil
theorem findT_ab (p : Pf) : ∀ t : Tr, (findT t p).ab = findA t.ab p
  | .nil => rfl
  | .node b q h v l r => by
    show (findT (.node b q h v l r) p).ab = findA (.node q h v l.ab r.ab) p
    rw [findT, findA]
    by_cases h1 : samePf q p = true
    · rw [if_pos h1, if_pos h1]; rfl
    · rw [if_neg h1, if_neg h1]
      by_cases h2 : coversF q p = true
      · rw [if_pos h2, if_pos h2]
        by_cases h3 : sideF q p = 0
        · rw [if_pos h3, if_pos h3]; exact findT_ab p l
        · rw [if_neg h3, if_neg h3]; exact findT_ab p r
      · rw [if_neg h2, if_neg h2]; rfl
def delA : Ab → Pf → Ab
  | .nil, _ => .nil
  | .node q h v l r, p => if samePf q p = true then jA q false att0 l r else if sideF q p = 0 then jA q h v (delA l p) r else jA q h v l (delA r p)
/-- while del goes: the boxes stand -/
structure DelW (w : World) (p : Pf) (C : Array Value) (W : World) : Prop where
  box : W.heap[w.heap.size]? = some (.cells #[.int .u32 (p.a : Int), .int .i64 p.l] 44 (0, 0))
  out : W.heap[w.heap.size + 1]? = some (.cells C 93 (0, 0))
  bel : Below w.heap.size w W
theorem DelW.below {w W W' : World} {p : Pf} {C : Array Value} (h : DelW w p C W) (hB : Below W.heap.size W W') : DelW w p C W' := ⟨heap_below hB h.box (ltOf h.box), heap_below hB h.out (ltOf h.out), h.bel.trans (hB.mono h.bel.size)⟩
structure Del4 (w : World) (q2 : Nat) (C0 C1 : Array Value) (b : Bool) (W : World) : Prop where
  bel : Below w.heap.size w W
  far : w.heap.size + 1 < q2
  non : W.heap[q2]? = some (.cells att0.cells.toArray 37 (0, 0))
  out : b = false → W.heap[w.heap.size + 1]? = some (.cells C0 93 (0, 0)) ∨ W.heap[w.heap.size + 1]? = some (.cells C1 93 (0, 0))
structure Del7 (w : World) (p : Pf) (C0 : Array Value) (b : Bool) (W : World) : Prop where
  bel : Below w.heap.size w W
  box : W.heap[w.heap.size]? = some (.cells #[.int .u32 (p.a : Int), .int .i64 p.l] 44 (0, 0))
  out : b = false → W.heap[w.heap.size + 1]? = some (.cells C0 93 (0, 0))
theorem Del7.below {w W W' : World} {p : Pf} {C0 : Array Value} {b : Bool} (h : Del7 w p C0 b W) (hB : Below W.heap.size W W') : Del7 w p C0 b W' := ⟨h.bel.trans (hB.mono h.bel.size), heap_below hB h.box (ltOf h.box), fun hb => heap_below hB (h.out hb) (ltOf (h.out hb))⟩
theorem node_false (p : Pf) (h : Bool) (v : Att) (vl vr : Value) : (nodeC p h v vl vr).toArray.setIfInBounds 2 (.bool false) = (nodeC p false v vl vr).toArray := rfl
theorem node_zero (p : Pf) (h : Bool) (v v' : Att) (vl vr : Value) : lay (nodeC p h v vl vr).toArray 3 v'.cells = (nodeC p h v' vl vr).toArray := by kernel_rfl
theorem node_left (p : Pf) (h : Bool) (v : Att) (vl vr x : Value) : (nodeC p h v vl vr).toArray.setIfInBounds 14 x = (nodeC p h v x vr).toArray := rfl
theorem node_right (p : Pf) (h : Bool) (v : Att) (vl vr x : Value) : (nodeC p h v vl vr).toArray.setIfInBounds 15 x = (nodeC p h v vl x).toArray := rfl
theorem Try.info93n (p : Pf) (h : Bool) (v : Att) (vl vr : Value) : (Try.prog.info? 93).map (·.size) = some (nodeC p h v vl vr).toArray.size := Try.info93
theorem node_one (p : Pf) (h : Bool) (v : Att) (l r : Tr) : (nodeC p h v l.ptr r.ptr).toArray.all (·.oneCell') = true := by
  cases l <;> cases r <;> simp [nodeC, Att.cells, Tr.ptr, Value.oneCell']

/-- del of a kid: what it yields, and where it goes -/
def Del7E (wA : World) (p : Pf) (n : Nat) (a : Ab) (bs : List Nat) (C : Value → Array Value) (u : Value) (b : Bool) (W : World) : Prop :=
  ∃ t' : Tr, u = t'.ptr ∧ t'.at wA W ∧ t'.ab = delA a p ∧ t'.from bs (n + 2) ∧ (b = true → W.heap[n + 1]? = some (.cells (C u) 93 (0, 0)))
theorem findT_kid {b : Nat} {q : Pf} {h : Bool} {v : Att} {l r : Tr} {p : Pf} (hf : (findT (.node b q h v l r) p).ab ≠ .nil) (hs : ¬ samePf q p = true) :
    (sideF q p = 0 → (findT l p).ab ≠ .nil) ∧ (sideF q p = 1 → (findT r p).ab ≠ .nil) := by
  rw [findT, if_neg hs] at hf
  by_cases h2 : coversF q p = true
  · rw [if_pos h2] at hf
    exact ⟨fun h => by rw [if_pos h] at hf; exact hf, fun h => by rw [if_neg (by omega)] at hf; exact hf⟩
  · rw [if_neg h2] at hf
    exact absurd rfl hf

set_option maxRecDepth 100000 in
set_option maxHeartbeats 8000000 in
theorem del_any (wA : World) (p : Pf) (hp : p.ok) : ∀ (t : Tr) (w : World), t.at wA w → (findT t p).ab ≠ .nil →
    Calls Try.prog 41 #[t.ptr, p.val] w fun e w' => (∃ t' : Tr, e = .returned t'.ptr ∧ t'.at wA w' ∧ t'.ab = delA t.ab p ∧ t'.from t.blocks w.heap.size) ∧ Below w.heap.size w w'
  | .nil, w, h, hf => absurd rfl hf
  | .node b q hs vv l r, w, h, hf => by
    have ihl := del_any wA p hp l
    have ihr := del_any wA p hp r
    have hpv : p.val = .agg #[.int .u32 (p.a : Int), .int .i64 p.l] := rfl
    rw [hpv] at ihl ihr ⊢
    have IHL := hidp ihl
    have IHR := hidp ihr
    clear ihl ihr hpv
    obtain ⟨hb, hq, hv, hl, hr⟩ := h
    have hsz := ltOf hb
    have HLR := hidp (And.intro hl (And.intro hr (And.intro hv hq)))
    have HHL := hidp hl.lt
    have HHR := hidp hr.lt
    have HF := hidp hf
    have hD : DelW w p (nodeC q hs vv l.ptr r.ptr).toArray ((w.alloc (.cells #[.int .u32 (p.a : Int), .int .i64 p.l] 44)).alloc (.cells (nodeC q hs vv l.ptr r.ptr).toArray 93)) :=
      ⟨heap_alloc_at (heap_alloc_new w _) _, heap_alloc_top _ _ _ (by simp), ((Below.refl w.heap.size w).alloc (Nat.le_refl _) _).alloc (by simp) _⟩
    have HD := hidp hD
    have HB := hidp hb
    have hpt : (Tr.node b q hs vv l r).ptr = .pointer (some ⟨b, 0, none⟩) := rfl
    rw [hpt]
    have HB1 := hidp (show (w.alloc (.cells #[.int .u32 (p.a : Int), .int .i64 p.l] 44)).heap[b]? = some (.cells (nodeC q hs vv l.ptr r.ptr).toArray 93 (0, 0)) from heap_alloc_at hb _)
    have hno := node_one q hs vv l r
    have HNO := hidp hno
    obtain ⟨vl, hvl⟩ : ∃ vl, vl = l.ptr := ⟨_, rfl⟩
    obtain ⟨vr, hvr⟩ : ∃ vr, vr = r.ptr := ⟨_, rfl⟩
    rw [← hvl, ← hvr] at HD HB HB1 HNO
    rw [← hvl] at IHL
    rw [← hvr] at IHR
    have HVP := hidp (And.intro hvl hvr)
    have hnl : (nodeC q hs vv vl vr).length = 16 := rfl
    clear hb hq hv hl hr hD hpt hf hvl hvr hno
    go_enter Try.func41, Try.ntmps41
    go_upto_region 2 with (first
      | (with_reducible refine wpList_load_row rfl 93 (.tmp 9) rfl b rfl 93 (nodeC q hs vv vl vr).toArray (0, 0) _ HB1.out Try.underlying93 rfl (Try.info93n _ _ _ _ _) ?_)
      | (with_reducible refine wpList_store_row rfl 93 (.tmp 5) (.tmp 10) rfl (w.heap.size + 1) (nodeC q hs vv vl vr).toArray rfl rfl 93 _ (heap_alloc_top _ _ _ (by simp)) (Try.info93n _ _ _ _ _) rfl HNO.out ?_
         rw [alloc_fill _ (by simp)]))
    have hw1 : ∀ (W : World), Below w.heap.size w W → W.cell? ⟨b, 0, none⟩ = some (.int .u32 (q.a : Int)) ∧ W.cell? ⟨b, 1, none⟩ = some (.int .i64 q.l) ∧ W.cell? ⟨b, 14, none⟩ = some vl ∧ W.cell? ⟨b, 15, none⟩ = some vr := fun W hW => by
      have k := heap_below hW HB.out hsz
      exact ⟨cellOf k 0 rfl, cellOf k 1 rfl, cellOf k 14 rfl, cellOf k 15 rfl⟩
    have HW := hidp hw1
    generalize (w.alloc (.cells #[.int .u32 (p.a : Int), .int .i64 p.l] 44)).alloc (.cells (nodeC q hs vv vl vr).toArray 93) = w1 at *
    obtain ⟨c0, c1, -, -⟩ := hw1 w1 HD.out.bel
    have d0 := cellOf HD.out.box 0 (v := .int .u32 (p.a : Int)) rfl
    have d1 := cellOf HD.out.box 1 (v := .int .i64 p.l) rfl
    have heq := eq44
    clear hw1 HB1
    by_cases hsm : samePf q p = true
    · have l1 : ((q.a : Int) == (p.a : Int) && q.l == p.l) = true := hsm
      go_quiet (fail)
      have HD2 := hidp (HD.out.below (below_drewN (Below.refl w1.heap.size w1) nq))
      generalize w1.drewN nq = w2 at *
      have HJ := hidp (fun W (h1 : l.at wA W) (h2 : r.at wA W) => joined_any wA q HLR.out.2.2.2 false att0 l r W (att0_at wA) h1 h2)
      rw [← HVP.out.1, ← HVP.out.2] at HJ
      have hda : delA (Tr.node b q hs vv l r).ab p = jA q false att0 l.ab r.ab := by
        show delA (.node q hs vv l.ab r.ab) p = _
        rw [delA, if_pos hsm]
      have HDA := hidp hda
      have HNO2 : Hid ((nodeC q false att0 vl vr).toArray.all (·.oneCell') = true) := by
        have := node_one q false att0 l r
        rw [← HVP.out.1, ← HVP.out.2] at this
        exact this
      clear c0 c1 d0 d1 heq l1 hda hsm IHL IHR HD HW HF
      go_upto_region 4 with (fail)
      change Code.wp Try.prog _ _ _ (w2.alloc (.cells att0.cells.toArray 37))
      have h4 : Del4 w w2.heap.size (nodeC q hs vv vl vr).toArray (nodeC q false vv vl vr).toArray false (w2.alloc (.cells att0.cells.toArray 37)) :=
        ⟨HD2.out.bel.alloc HD2.out.bel.size _, ltOf HD2.out.out, heap_alloc_new w2 _, fun _ => .inl (heap_alloc_at HD2.out.out _)⟩
      generalize w2.alloc (.cells att0.cells.toArray 37) = w3 at *
      have h4d : Del4 w w2.heap.size (nodeC q hs vv vl vr).toArray (nodeC q false vv vl vr).toArray false w3.drew := ⟨h4.bel.drew, h4.far, h4.non, h4.out⟩
      clear h4
      refine wp_region_flowU (fun iqv => ([(.agg att0.cells.toArray : Value), (.pointer (some ⟨w.heap.size + 1, 2, none⟩) : Value), (undef : Value), (.pointer (some ⟨w.heap.size + 1, 3, none⟩) : Value), (undef : Value)] : List Value).getD iqv undef) 2 4 (fun b W => Del4 w w2.heap.size (nodeC q hs vv vl vr).toArray (nodeC q false vv vl vr).toArray b W) (fun _ b W => W.heap[w.heap.size + 1]? = some (.cells (nodeC q false (if b = true then att0 else vv) vl vr).toArray 93 (0, 0))) (fun u => [(some 17, .agg att0.cells.toArray), (some 18, .pointer (some ⟨w.heap.size + 1, 2, none⟩)), (none, u), (some 19, .pointer (some ⟨w.heap.size + 1, 3, none⟩)), (none, undef)]) (by kernel_rfl) (by kernel_rfl) (of_decide_eq_true (by kernel_rfl)) (of_decide_eq_true (by kernel_rfl)) (by kernel_rfl) (by kernel_rfl) (by kernel_rfl) h4d (fun iq hiq hik his => ?_) ?_ ?_ (fun u => by kernel_rfl) (fun u W hSW hE => ?_)
      · match iq, hiq with
        | 0, _ =>
          intro bq aq W hSW hf
          have v6 : aq.tmps[6]? = some (.pointer (some ⟨w2.heap.size, 0, none⟩)) := (hf.at_base 6 (by kernel_rfl)).trans rfl
          clear hf
          refine wpOp_flow rfl (by rfl) (fun Kq hK => ?_)
          refine wp_load_mid 37 (.tmp 6) rfl w2.heap.size 0 (eval_of v6) att0.cells _ (fun j x hx => cellOf hSW.non (0 + j) (by simpa using hx)) Try.underlying37 rfl (by rw [Att.len]; exact Try.info37) (hK _ _ ⟨rfl, hSW, fun _ h => h⟩)
        | 1, _ =>
          intro bq aq W hSW hf
          have v5 : aq.tmps[5]? = some (.pointer (some ⟨w.heap.size + 1, 0, none⟩)) := (hf.at_base 5 (by kernel_rfl)).trans rfl
          clear hf
          refine wpOp_flow rfl (by rfl) (fun Kq hK => ?_)
          go_simp
          exact hK _ _ ⟨rfl, hSW, fun _ h => h⟩
        | 2, _ =>
          exact absurd rfl hik
        | 3, _ =>
          intro bq aq W hSW hf
          have v5 : aq.tmps[5]? = some (.pointer (some ⟨w.heap.size + 1, 0, none⟩)) := (hf.at_base 5 (by kernel_rfl)).trans rfl
          clear hf
          refine wpOp_flow rfl (by rfl) (fun Kq hK => ?_)
          go_simp
          exact hK _ _ ⟨rfl, hSW, fun _ h => h⟩
        | 4, _ =>
          exact absurd rfl his
        | kq + 5, hk => exact absurd hk (by first | omega | (intro h; simp at h; omega))
      · intro aq W hSW hf
        have v18 : aq.tmps[18]? = some (.pointer (some ⟨w.heap.size + 1, 2, none⟩)) := hf.val 1 18 (by kernel_rfl) rfl
        clear hf
        refine wpOp_flow rfl (by rfl) (fun Kq hK => ?_)
        rcases hSW.out rfl with hc | hc
        · have ck := cellOf hc 2 (v := .bool hs) rfl
          have fk := frozenOf hc 2
          have hc1 := heap_setCell_same hc 2 (.bool false)
          rw [node_false] at hc1
          have hn : (W.setCell ⟨w.heap.size + 1, 2, none⟩ (.bool false)).heap[w2.heap.size]? = some (.cells att0.cells.toArray 37 (0, 0)) := by
            rw [Below.heap_setCell _ _ _ _ (by show w2.heap.size ≠ w.heap.size + 1; have := hSW.far; omega)]
            exact hSW.non
          have hb : Below w.heap.size w (W.setCell ⟨w.heap.size + 1, 2, none⟩ (.bool false)) := hSW.bel.setCell (show w.heap.size ≤ w.heap.size + 1 by omega) _
          have hfar := hSW.far
          clear hSW hc
          go_simp
          exact hK _ _ ⟨undef, rfl, ⟨hb, hfar, hn, fun _ => .inr hc1⟩, hc1⟩
        · have ck := cellOf hc 2 (v := .bool false) rfl
          have fk := frozenOf hc 2
          have hc1 := heap_setCell_same hc 2 (.bool false)
          rw [node_false] at hc1
          have hn : (W.setCell ⟨w.heap.size + 1, 2, none⟩ (.bool false)).heap[w2.heap.size]? = some (.cells att0.cells.toArray 37 (0, 0)) := by
            rw [Below.heap_setCell _ _ _ _ (by show w2.heap.size ≠ w.heap.size + 1; have := hSW.far; omega)]
            exact hSW.non
          have hb : Below w.heap.size w (W.setCell ⟨w.heap.size + 1, 2, none⟩ (.bool false)) := hSW.bel.setCell (show w.heap.size ≤ w.heap.size + 1 by omega) _
          have hfar := hSW.far
          clear hSW hc
          go_simp
          exact hK _ _ ⟨undef, rfl, ⟨hb, hfar, hn, fun _ => .inr hc1⟩, hc1⟩
      · intro u aq W hSW hE hf
        have v17 : aq.tmps[17]? = some (.agg att0.cells.toArray) := hf.val 0 17 (by kernel_rfl) rfl
        have v19 : aq.tmps[19]? = some (.pointer (some ⟨w.heap.size + 1, 3, none⟩)) := hf.val 3 19 (by kernel_rfl) rfl
        clear hf
        refine wpOp_flow rfl (by rfl) (fun Kq hK => ?_)
        have hc : W.heap[w.heap.size + 1]? = some (.cells (nodeC q false vv vl vr).toArray 93 (0, 0)) := hE
        refine wp_store_mid 37 (.tmp 19) (.tmp 17) rfl (w.heap.size + 1) 3 att0.cells.toArray (eval_of v19) (eval_of v17) (there_of hc 3 11 (by show 3 + 11 ≤ 16; decide)) Try.info37 (Att.all_one att0) (hK _ _ ?_)
        refine ⟨rfl, ⟨below_setCells (by omega) _ _ _ hSW.bel, hSW.far, ?_, fun h => by cases h⟩, ?_⟩
        · rw [heap_setCells_far (by have := hSW.far; omega)]; exact hSW.non
        · have := heap_setCells att0.cells W _ 3 hc
          rw [node_zero] at this
          exact this
      · simp only [puts, Act.put, List.setIfInBounds_toArray, List.set_cons_zero, List.set_cons_succ]
        have hc : W.heap[w.heap.size + 1]? = some (.cells (nodeC q false att0 vl vr).toArray 93 (0, 0)) := hE
        have HC := hidp hc
        have HBW := hidp hSW.bel
        have hlr := And.intro (HLR.out.1.below hSW.bel) (HLR.out.2.1.below hSW.bel)
        have HLW := hidp hlr
        clear hc hE hSW hlr
        go_wp2_with (first
          | (with_reducible refine wpList_load_row rfl 93 (.tmp 5) rfl (w.heap.size + 1) rfl 93 (nodeC q false att0 vl vr).toArray (0, 0) _ HC.out Try.underlying93 rfl (Try.info93n _ _ _ _ _) ?_)
          | (go_at_call 55; refine (HJ.out _ HLW.out.1 HLW.out.2).mono ?_; rintro e w5 ⟨⟨t', rfl, h1, h2, h3⟩, B5⟩
             have H5 := hidp (And.intro h1 (And.intro h2 (And.intro h3 B5)))
             clear h1 h2 h3 B5))
        go_ret
        obtain ⟨h1, h2, h3, B5⟩ := H5.out
        exact ⟨⟨t', rfl, h1, by rw [HDA.out]; exact h2, fun k hk => by rcases h3 k hk with h | h; exact .inl (by simp only [Tr.blocks]; exact List.mem_cons_of_mem _ h); exact .inr (Nat.le_trans HBW.out.size h)⟩, HBW.out.trans (B5.mono HBW.out.size)⟩
    · have l1 : ((q.a : Int) == (p.a : Int) && q.l == p.l) = false := by
        rw [← Bool.not_eq_true]
        exact hsm
      go_quiet (fail)
      have HD2 := hidp (HD.out.below (below_drewN (Below.refl w1.heap.size w1) nq))
      generalize w1.drewN nq = w2 at *
      have HK := hidp (findT_kid HF.out hsm)
      have HSM := hidp hsm
      clear c0 c1 d0 d1 heq l1 hsm HD HF
      go_wp2
      have hd2 : Below w2.heap.size w2 w2.drew := (Below.refl _ _).drew
      rcases side_lt q p with hs' | hs'
      · have HSD := hidp hs'
        have HFK := hidp (HK.out.1 hs')
        have hda : delA (Tr.node b q hs vv l r).ab p = jA q hs vv (delA l.ab p) r.ab := by
          show delA (.node q hs vv l.ab r.ab) p = _
          rw [delA, if_neg HSM.out, if_pos hs']
        have HDA := hidp hda
        clear hs' HK hda
        refine wp_region_flow2 (fun iqv => ([(.pointer (some ⟨b, 0, none⟩) : Value), (.pointer (some ⟨b, 0, none⟩) : Value), (.pointer (some ⟨b, 0, none⟩) : Value), (.agg #[.int .u32 (q.a : Int), .int .i64 q.l] : Value), (.agg #[.int .u32 (p.a : Int), .int .i64 p.l] : Value), (.int .i64 (0 : Int) : Value), (.int .i64 (0 : Int) : Value)] : List Value).getD iqv undef) [(some 22, .pointer (some ⟨b, 0, none⟩)), (some 23, .pointer (some ⟨b, 0, none⟩)), (some 24, .pointer (some ⟨b, 0, none⟩)), (some 25, .agg #[.int .u32 (q.a : Int), .int .i64 q.l]), (some 26, .agg #[.int .u32 (p.a : Int), .int .i64 p.l]), (some 27, .int .i64 (0 : Int)), (some 7, .int .i64 (0 : Int))] (fun W : World => Below w2.heap.size w2 W) (by kernel_rfl) (by kernel_rfl) hd2 (fun iq hiq => ?_) (by kernel_rfl) (fun W hSW => ?_)
        · match iq, hiq with
          | 0, _ =>
            intro aq W hSW hf
            have v0 : aq.tmps[0]? = some (.pointer (some ⟨b, 0, none⟩)) := (hf.at_base 0 (by kernel_rfl)).trans rfl
            clear hf
            refine wpOp_flow rfl (by rfl) (fun Kq hK => ?_)
            go_simp
            exact hK _ _ ⟨rfl, hSW⟩
          | 1, _ =>
            intro aq W hSW hf
            have v22 : aq.tmps[22]? = some (.pointer (some ⟨b, 0, none⟩)) := hf.val 0 22 (by kernel_rfl) rfl
            clear hf
            refine wpOp_flow rfl (by rfl) (fun Kq hK => ?_)
            go_simp
            exact hK _ _ ⟨rfl, hSW⟩
          | 2, _ =>
            intro aq W hSW hf
            have v23 : aq.tmps[23]? = some (.pointer (some ⟨b, 0, none⟩)) := hf.val 1 23 (by kernel_rfl) rfl
            clear hf
            refine wpOp_flow rfl (by rfl) (fun Kq hK => ?_)
            go_simp
            exact hK _ _ ⟨rfl, hSW⟩
          | 3, _ =>
            intro aq W hSW hf
            have v24 : aq.tmps[24]? = some (.pointer (some ⟨b, 0, none⟩)) := hf.val 2 24 (by kernel_rfl) rfl
            clear hf
            refine wpOp_flow rfl (by rfl) (fun Kq hK => ?_)
            obtain ⟨c0, c1, -, -⟩ := HW.out W (HD2.out.bel.trans (hSW.mono HD2.out.bel.size))
            go_simp
            exact hK _ _ ⟨rfl, hSW⟩
          | 4, _ =>
            intro aq W hSW hf
            have v3 : aq.tmps[3]? = some (.pointer (some ⟨w.heap.size, 0, none⟩)) := (hf.at_base 3 (by kernel_rfl)).trans rfl
            clear hf
            refine wpOp_flow rfl (by rfl) (fun Kq hK => ?_)
            have hx := HD2.out.below hSW
            have d0 := cellOf hx.box 0 (v := .int .u32 (p.a : Int)) rfl
            have d1 := cellOf hx.box 1 (v := .int .i64 p.l) rfl
            clear hx
            go_simp
            exact hK _ _ ⟨rfl, hSW⟩
          | 5, _ =>
            intro aq W hSW hf
            have v25 : aq.tmps[25]? = some (.agg #[.int .u32 (q.a : Int), .int .i64 q.l]) := hf.val 3 25 (by kernel_rfl) rfl
            have v26 : aq.tmps[26]? = some (.agg #[.int .u32 (p.a : Int), .int .i64 p.l]) := hf.val 4 26 (by kernel_rfl) rfl
            clear hf
            refine wpOp_flow rfl (by rfl) (fun Kq hK => ?_)
            go_simp
            refine (side_any q p hp _).mono ?_
            rw [HSD.out]
            rintro e w19 ⟨rfl, B19⟩
            exact hK _ _ ⟨rfl, hSW.trans (B19.mono hSW.size)⟩
          | 6, _ =>
            intro aq W hSW hf
            have v27 : aq.tmps[27]? = some (.int .i64 (0 : Int)) := hf.val 5 27 (by kernel_rfl) rfl
            clear hf
            refine wpOp_flow rfl (by rfl) (fun Kq hK => ?_)
            go_simp
            exact hK _ _ ⟨rfl, hSW⟩
          | kq + 7, hk => exact absurd hk (by first | omega | (intro h; simp at h; omega))
        · simp only [puts, Act.put, List.setIfInBounds_toArray, List.set_cons_zero, List.set_cons_succ]
          have h7 : Del7 w p (nodeC q hs vv vl vr).toArray false W := ⟨HD2.out.bel.trans (hSW.mono HD2.out.bel.size), (HD2.out.below hSW).box, fun _ => (HD2.out.below hSW).out⟩
          clear hSW
          go_wp2
          have h7d : Del7 w p (nodeC q hs vv vl vr).toArray false W.drew := ⟨h7.bel.drew, h7.box, h7.out⟩
          clear h7
          refine wp_region_flowU (fun iqv => ([(.int .i64 (0 : Int) : Value), (.pointer (some ⟨b, 0, none⟩) : Value), (.int .i64 (0 : Int) : Value), (.pointer (some ⟨b, 0, none⟩) : Value), (.pointer (some ⟨b, 14, none⟩) : Value), (.pointer (some ⟨b, 14, none⟩) : Value), (vl : Value), (.agg #[.int .u32 (p.a : Int), .int .i64 p.l] : Value), (undef : Value), (.pointer (some ⟨w.heap.size + 1, 14, none⟩) : Value), (.pointer (some ⟨w.heap.size + 1, 14, none⟩) : Value), (undef : Value)] : List Value).getD iqv undef) 8 11 (fun b W => Del7 w p (nodeC q hs vv vl vr).toArray b W) (fun u b W => Del7E wA p w.heap.size l.ab l.blocks (fun u => (nodeC q hs vv u vr).toArray) u b W) (fun u => [(some 28, .int .i64 (0 : Int)), (some 29, .pointer (some ⟨b, 0, none⟩)), (some 30, .int .i64 (0 : Int)), (some 31, .pointer (some ⟨b, 0, none⟩)), (some 32, .pointer (some ⟨b, 14, none⟩)), (some 33, .pointer (some ⟨b, 14, none⟩)), (some 34, vl), (some 35, .agg #[.int .u32 (p.a : Int), .int .i64 p.l]), (some 36, u), (some 37, .pointer (some ⟨w.heap.size + 1, 14, none⟩)), (some 38, .pointer (some ⟨w.heap.size + 1, 14, none⟩)), (none, undef)]) (by kernel_rfl) (by kernel_rfl) (of_decide_eq_true (by kernel_rfl)) (of_decide_eq_true (by kernel_rfl)) (by kernel_rfl) (by kernel_rfl) (by kernel_rfl) h7d (fun iq hiq hik his => ?_) ?_ ?_ (fun u => by kernel_rfl) (fun u W hSW hE => ?_)
          · match iq, hiq with
            | 0, _ =>
              intro bq aq W hSW hf
              have v7 : aq.tmps[7]? = some (.int .i64 (0 : Int)) := (hf.at_base 7 (by kernel_rfl)).trans rfl
              clear hf
              refine wpOp_flow rfl (by rfl) (fun Kq hK => ?_)
              go_simp
              exact hK _ _ ⟨rfl, hSW, fun _ h => h⟩
            | 1, _ =>
              intro bq aq W hSW hf
              have v0 : aq.tmps[0]? = some (.pointer (some ⟨b, 0, none⟩)) := (hf.at_base 0 (by kernel_rfl)).trans rfl
              clear hf
              refine wpOp_flow rfl (by rfl) (fun Kq hK => ?_)
              go_simp
              exact hK _ _ ⟨rfl, hSW, fun _ h => h⟩
            | 2, _ =>
              intro bq aq W hSW hf
              have v7 : aq.tmps[7]? = some (.int .i64 (0 : Int)) := (hf.at_base 7 (by kernel_rfl)).trans rfl
              clear hf
              refine wpOp_flow rfl (by rfl) (fun Kq hK => ?_)
              go_simp
              exact hK _ _ ⟨rfl, hSW, fun _ h => h⟩
            | 3, _ =>
              intro bq aq W hSW hf
              have v29 : aq.tmps[29]? = some (.pointer (some ⟨b, 0, none⟩)) := hf.val 1 29 (by kernel_rfl) rfl
              clear hf
              refine wpOp_flow rfl (by rfl) (fun Kq hK => ?_)
              go_simp
              exact hK _ _ ⟨rfl, hSW, fun _ h => h⟩
            | 4, _ =>
              intro bq aq W hSW hf
              have v31 : aq.tmps[31]? = some (.pointer (some ⟨b, 0, none⟩)) := hf.val 3 31 (by kernel_rfl) rfl
              clear hf
              refine wpOp_flow rfl (by rfl) (fun Kq hK => ?_)
              go_simp
              exact hK _ _ ⟨rfl, hSW, fun _ h => h⟩
            | 5, _ =>
              intro bq aq W hSW hf
              have v30 : aq.tmps[30]? = some (.int .i64 (0 : Int)) := hf.val 2 30 (by kernel_rfl) rfl
              have v32 : aq.tmps[32]? = some (.pointer (some ⟨b, 14, none⟩)) := hf.val 4 32 (by kernel_rfl) rfl
              clear hf
              refine wpOp_flow rfl (by rfl) (fun Kq hK => ?_)
              go_simp
              exact hK _ _ ⟨rfl, hSW, fun _ h => h⟩
            | 6, _ =>
              intro bq aq W hSW hf
              have v33 : aq.tmps[33]? = some (.pointer (some ⟨b, 14, none⟩)) := hf.val 5 33 (by kernel_rfl) rfl
              clear hf
              refine wpOp_flow rfl (by rfl) (fun Kq hK => ?_)
              obtain ⟨-, -, c2, c3⟩ := HW.out W hSW.bel
              go_simp
              exact hK _ _ ⟨rfl, hSW, fun _ h => h⟩
            | 7, _ =>
              intro bq aq W hSW hf
              have v3 : aq.tmps[3]? = some (.pointer (some ⟨w.heap.size, 0, none⟩)) := (hf.at_base 3 (by kernel_rfl)).trans rfl
              clear hf
              refine wpOp_flow rfl (by rfl) (fun Kq hK => ?_)
              have d0 := cellOf hSW.box 0 (v := .int .u32 (p.a : Int)) rfl
              have d1 := cellOf hSW.box 1 (v := .int .i64 p.l) rfl
              go_simp
              exact hK _ _ ⟨rfl, hSW, fun _ h => h⟩
            | 8, _ =>
              exact absurd rfl hik
            | 9, _ =>
              intro bq aq W hSW hf
              have v5 : aq.tmps[5]? = some (.pointer (some ⟨w.heap.size + 1, 0, none⟩)) := (hf.at_base 5 (by kernel_rfl)).trans rfl
              clear hf
              refine wpOp_flow rfl (by rfl) (fun Kq hK => ?_)
              go_simp
              exact hK _ _ ⟨rfl, hSW, fun _ h => h⟩
            | 10, _ =>
              intro bq aq W hSW hf
              have v28 : aq.tmps[28]? = some (.int .i64 (0 : Int)) := hf.val 0 28 (by kernel_rfl) rfl
              have v37 : aq.tmps[37]? = some (.pointer (some ⟨w.heap.size + 1, 14, none⟩)) := hf.val 9 37 (by kernel_rfl) rfl
              clear hf
              refine wpOp_flow rfl (by rfl) (fun Kq hK => ?_)
              go_simp
              exact hK _ _ ⟨rfl, hSW, fun _ h => h⟩
            | 11, _ =>
              exact absurd rfl his
            | kq + 12, hk => exact absurd hk (by first | omega | (intro h; simp at h; omega))
          · intro aq W hSW hf
            have v34 : aq.tmps[34]? = some (vl) := hf.val 6 34 (by kernel_rfl) rfl
            have v35 : aq.tmps[35]? = some (.agg #[.int .u32 (p.a : Int), .int .i64 p.l]) := hf.val 7 35 (by kernel_rfl) rfl
            clear hf
            refine wpOp_flow rfl (by rfl) (fun Kq hK => ?_)
            have hsz2 := ltOf (hSW.out rfl)
            go_simp
            refine (IHL.out W (HLR.out.1.below hSW.bel) HFK.out).mono ?_
            rintro e w19 ⟨⟨t', rfl, h1, h2, h3⟩, B19⟩
            exact hK _ _ ⟨t'.ptr, rfl, hSW.below B19, t', rfl, h1, h2, fun k hk => by rcases h3 k hk with h | h; exact .inl h; exact .inr (by omega), fun h => by cases h⟩
          · intro u aq W hSW hE hf
            have v36 : aq.tmps[36]? = some (u) := hf.val 8 36 (by kernel_rfl) rfl
            have v38 : aq.tmps[38]? = some (.pointer (some ⟨w.heap.size + 1, 14, none⟩)) := hf.val 10 38 (by kernel_rfl) rfl
            clear hf
            refine wpOp_flow rfl (by rfl) (fun Kq hK => ?_)
            obtain ⟨t', rfl, h1, h2, h3, -⟩ := hE
            have hc := hSW.out rfl
            have hc1 := heap_setCell_same hc 14 t'.ptr
            rw [node_left] at hc1
            have ck := cellOf hc 14 (v := vl) rfl
            have fk := frozenOf hc 14
            have hat : t'.at wA (W.setCell ⟨w.heap.size + 1, 14, none⟩ t'.ptr) := h1.of_heap fun k hk => by
              refine Below.heap_setCell _ _ _ _ (show k ≠ w.heap.size + 1 from ?_)
              rcases h3 k hk with h | h
              · have := HHL.out k h
                omega
              · omega
            have hS7 : Del7 w p (nodeC q hs vv vl vr).toArray true (W.setCell ⟨w.heap.size + 1, 14, none⟩ t'.ptr) := ⟨hSW.bel.setCell (show w.heap.size ≤ w.heap.size + 1 by omega) _, by rw [Below.heap_setCell _ _ _ _ (show w.heap.size ≠ w.heap.size + 1 by omega)]; exact hSW.box, fun h => by cases h⟩
            have hE7 : Del7E wA p w.heap.size l.ab l.blocks (fun u => (nodeC q hs vv u vr).toArray) t'.ptr true (W.setCell ⟨w.heap.size + 1, 14, none⟩ t'.ptr) := ⟨t', rfl, hat, h2, h3, fun _ => hc1⟩
            obtain ⟨o, ho⟩ : ∃ o, t'.ptr = .pointer o := by cases t' <;> exact ⟨_, rfl⟩
            rw [ho] at v36 hS7 hE7
            clear hSW hc hc1 hat h1 h2 h3
            go_simp
            exact hK _ _ ⟨rfl, hS7, by rw [ho]; exact hE7⟩
          · simp only [puts, Act.put, List.setIfInBounds_toArray, List.set_cons_zero, List.set_cons_succ]
            obtain ⟨t', hu, h1, h2, h3, h4⟩ := hE
            have HC := hidp (h4 rfl)
            have HBW := hidp hSW.bel
            have HTW := hidp (And.intro h1 (And.intro h2 h3))
            have HOW := hidp (HLR.out.2.1.below hSW.bel)
            have HJ := hidp (fun W (h1 : t'.at wA W) (h2 : r.at wA W) => joined_any wA q HLR.out.2.2.2 hs vv t' r W HLR.out.2.2.1 h1 h2)
            rw [← HVP.out.2, ← hu] at HJ
            have HU := hidp hu
            clear h1 h2 h3 h4 hSW hu
            go_wp2_with (first
              | (with_reducible refine wpList_load_row rfl 93 (.tmp 5) rfl (w.heap.size + 1) rfl 93 (nodeC q hs vv u vr).toArray (0, 0) _ HC.out Try.underlying93 rfl (Try.info93n _ _ _ _ _) ?_)
              | (go_at_call 55; refine (HJ.out _ HTW.out.1 HOW.out).mono ?_; rintro e w5 ⟨⟨t2, rfl, k1, k2, k3⟩, B5⟩
                 have H5 := hidp (And.intro k1 (And.intro k2 (And.intro k3 B5)))
                 clear k1 k2 k3 B5))
            go_ret
            obtain ⟨k1, k2, k3, B5⟩ := H5.out
            refine ⟨⟨t2, rfl, k1, by rw [HDA.out, ← HTW.out.2.1]; exact k2, fun k hk => ?_⟩, HBW.out.trans (B5.mono HBW.out.size)⟩
            simp only [Tr.blocks, List.mem_cons, List.mem_append]
            rcases k3 k hk with h | h
            · rcases List.mem_append.1 h with h | h
              · rcases HTW.out.2.2 k h with h | h
                · exact .inl (.inr (.inl h))
                · exact .inr (by omega)
              · exact .inl (.inr (.inr h))
            · exact .inr (Nat.le_trans HBW.out.size h)
      · have HSD := hidp hs'
        have HFK := hidp (HK.out.2 hs')
        have hda : delA (Tr.node b q hs vv l r).ab p = jA q hs vv l.ab (delA r.ab p) := by
          show delA (.node q hs vv l.ab r.ab) p = _
          rw [delA, if_neg HSM.out, if_neg (by omega)]
        have HDA := hidp hda
        clear hs' HK hda
        refine wp_region_flow2 (fun iqv => ([(.pointer (some ⟨b, 0, none⟩) : Value), (.pointer (some ⟨b, 0, none⟩) : Value), (.pointer (some ⟨b, 0, none⟩) : Value), (.agg #[.int .u32 (q.a : Int), .int .i64 q.l] : Value), (.agg #[.int .u32 (p.a : Int), .int .i64 p.l] : Value), (.int .i64 (1 : Int) : Value), (.int .i64 (1 : Int) : Value)] : List Value).getD iqv undef) [(some 22, .pointer (some ⟨b, 0, none⟩)), (some 23, .pointer (some ⟨b, 0, none⟩)), (some 24, .pointer (some ⟨b, 0, none⟩)), (some 25, .agg #[.int .u32 (q.a : Int), .int .i64 q.l]), (some 26, .agg #[.int .u32 (p.a : Int), .int .i64 p.l]), (some 27, .int .i64 (1 : Int)), (some 7, .int .i64 (1 : Int))] (fun W : World => Below w2.heap.size w2 W) (by kernel_rfl) (by kernel_rfl) hd2 (fun iq hiq => ?_) (by kernel_rfl) (fun W hSW => ?_)
        · match iq, hiq with
          | 0, _ =>
            intro aq W hSW hf
            have v0 : aq.tmps[0]? = some (.pointer (some ⟨b, 0, none⟩)) := (hf.at_base 0 (by kernel_rfl)).trans rfl
            clear hf
            refine wpOp_flow rfl (by rfl) (fun Kq hK => ?_)
            go_simp
            exact hK _ _ ⟨rfl, hSW⟩
          | 1, _ =>
            intro aq W hSW hf
            have v22 : aq.tmps[22]? = some (.pointer (some ⟨b, 0, none⟩)) := hf.val 0 22 (by kernel_rfl) rfl
            clear hf
            refine wpOp_flow rfl (by rfl) (fun Kq hK => ?_)
            go_simp
            exact hK _ _ ⟨rfl, hSW⟩
          | 2, _ =>
            intro aq W hSW hf
            have v23 : aq.tmps[23]? = some (.pointer (some ⟨b, 0, none⟩)) := hf.val 1 23 (by kernel_rfl) rfl
            clear hf
            refine wpOp_flow rfl (by rfl) (fun Kq hK => ?_)
            go_simp
            exact hK _ _ ⟨rfl, hSW⟩
          | 3, _ =>
            intro aq W hSW hf
            have v24 : aq.tmps[24]? = some (.pointer (some ⟨b, 0, none⟩)) := hf.val 2 24 (by kernel_rfl) rfl
            clear hf
            refine wpOp_flow rfl (by rfl) (fun Kq hK => ?_)
            obtain ⟨c0, c1, -, -⟩ := HW.out W (HD2.out.bel.trans (hSW.mono HD2.out.bel.size))
            go_simp
            exact hK _ _ ⟨rfl, hSW⟩
          | 4, _ =>
            intro aq W hSW hf
            have v3 : aq.tmps[3]? = some (.pointer (some ⟨w.heap.size, 0, none⟩)) := (hf.at_base 3 (by kernel_rfl)).trans rfl
            clear hf
            refine wpOp_flow rfl (by rfl) (fun Kq hK => ?_)
            have hx := HD2.out.below hSW
            have d0 := cellOf hx.box 0 (v := .int .u32 (p.a : Int)) rfl
            have d1 := cellOf hx.box 1 (v := .int .i64 p.l) rfl
            clear hx
            go_simp
            exact hK _ _ ⟨rfl, hSW⟩
          | 5, _ =>
            intro aq W hSW hf
            have v25 : aq.tmps[25]? = some (.agg #[.int .u32 (q.a : Int), .int .i64 q.l]) := hf.val 3 25 (by kernel_rfl) rfl
            have v26 : aq.tmps[26]? = some (.agg #[.int .u32 (p.a : Int), .int .i64 p.l]) := hf.val 4 26 (by kernel_rfl) rfl
            clear hf
            refine wpOp_flow rfl (by rfl) (fun Kq hK => ?_)
            go_simp
            refine (side_any q p hp _).mono ?_
            rw [HSD.out]
            rintro e w19 ⟨rfl, B19⟩
            exact hK _ _ ⟨rfl, hSW.trans (B19.mono hSW.size)⟩
          | 6, _ =>
            intro aq W hSW hf
            have v27 : aq.tmps[27]? = some (.int .i64 (1 : Int)) := hf.val 5 27 (by kernel_rfl) rfl
            clear hf
            refine wpOp_flow rfl (by rfl) (fun Kq hK => ?_)
            go_simp
            exact hK _ _ ⟨rfl, hSW⟩
          | kq + 7, hk => exact absurd hk (by first | omega | (intro h; simp at h; omega))
        · simp only [puts, Act.put, List.setIfInBounds_toArray, List.set_cons_zero, List.set_cons_succ]
          have h7 : Del7 w p (nodeC q hs vv vl vr).toArray false W := ⟨HD2.out.bel.trans (hSW.mono HD2.out.bel.size), (HD2.out.below hSW).box, fun _ => (HD2.out.below hSW).out⟩
          clear hSW
          go_wp2
          have h7d : Del7 w p (nodeC q hs vv vl vr).toArray false W.drew := ⟨h7.bel.drew, h7.box, h7.out⟩
          clear h7
          refine wp_region_flowU (fun iqv => ([(.int .i64 (1 : Int) : Value), (.pointer (some ⟨b, 0, none⟩) : Value), (.int .i64 (1 : Int) : Value), (.pointer (some ⟨b, 0, none⟩) : Value), (.pointer (some ⟨b, 14, none⟩) : Value), (.pointer (some ⟨b, 15, none⟩) : Value), (vr : Value), (.agg #[.int .u32 (p.a : Int), .int .i64 p.l] : Value), (undef : Value), (.pointer (some ⟨w.heap.size + 1, 14, none⟩) : Value), (.pointer (some ⟨w.heap.size + 1, 15, none⟩) : Value), (undef : Value)] : List Value).getD iqv undef) 8 11 (fun b W => Del7 w p (nodeC q hs vv vl vr).toArray b W) (fun u b W => Del7E wA p w.heap.size r.ab r.blocks (fun u => (nodeC q hs vv vl u).toArray) u b W) (fun u => [(some 28, .int .i64 (1 : Int)), (some 29, .pointer (some ⟨b, 0, none⟩)), (some 30, .int .i64 (1 : Int)), (some 31, .pointer (some ⟨b, 0, none⟩)), (some 32, .pointer (some ⟨b, 14, none⟩)), (some 33, .pointer (some ⟨b, 15, none⟩)), (some 34, vr), (some 35, .agg #[.int .u32 (p.a : Int), .int .i64 p.l]), (some 36, u), (some 37, .pointer (some ⟨w.heap.size + 1, 14, none⟩)), (some 38, .pointer (some ⟨w.heap.size + 1, 15, none⟩)), (none, undef)]) (by kernel_rfl) (by kernel_rfl) (of_decide_eq_true (by kernel_rfl)) (of_decide_eq_true (by kernel_rfl)) (by kernel_rfl) (by kernel_rfl) (by kernel_rfl) h7d (fun iq hiq hik his => ?_) ?_ ?_ (fun u => by kernel_rfl) (fun u W hSW hE => ?_)
          · match iq, hiq with
            | 0, _ =>
              intro bq aq W hSW hf
              have v7 : aq.tmps[7]? = some (.int .i64 (1 : Int)) := (hf.at_base 7 (by kernel_rfl)).trans rfl
              clear hf
              refine wpOp_flow rfl (by rfl) (fun Kq hK => ?_)
              go_simp
              exact hK _ _ ⟨rfl, hSW, fun _ h => h⟩
            | 1, _ =>
              intro bq aq W hSW hf
              have v0 : aq.tmps[0]? = some (.pointer (some ⟨b, 0, none⟩)) := (hf.at_base 0 (by kernel_rfl)).trans rfl
              clear hf
              refine wpOp_flow rfl (by rfl) (fun Kq hK => ?_)
              go_simp
              exact hK _ _ ⟨rfl, hSW, fun _ h => h⟩
            | 2, _ =>
              intro bq aq W hSW hf
              have v7 : aq.tmps[7]? = some (.int .i64 (1 : Int)) := (hf.at_base 7 (by kernel_rfl)).trans rfl
              clear hf
              refine wpOp_flow rfl (by rfl) (fun Kq hK => ?_)
              go_simp
              exact hK _ _ ⟨rfl, hSW, fun _ h => h⟩
            | 3, _ =>
              intro bq aq W hSW hf
              have v29 : aq.tmps[29]? = some (.pointer (some ⟨b, 0, none⟩)) := hf.val 1 29 (by kernel_rfl) rfl
              clear hf
              refine wpOp_flow rfl (by rfl) (fun Kq hK => ?_)
              go_simp
              exact hK _ _ ⟨rfl, hSW, fun _ h => h⟩
            | 4, _ =>
              intro bq aq W hSW hf
              have v31 : aq.tmps[31]? = some (.pointer (some ⟨b, 0, none⟩)) := hf.val 3 31 (by kernel_rfl) rfl
              clear hf
              refine wpOp_flow rfl (by rfl) (fun Kq hK => ?_)
              go_simp
              exact hK _ _ ⟨rfl, hSW, fun _ h => h⟩
            | 5, _ =>
              intro bq aq W hSW hf
              have v30 : aq.tmps[30]? = some (.int .i64 (1 : Int)) := hf.val 2 30 (by kernel_rfl) rfl
              have v32 : aq.tmps[32]? = some (.pointer (some ⟨b, 14, none⟩)) := hf.val 4 32 (by kernel_rfl) rfl
              clear hf
              refine wpOp_flow rfl (by rfl) (fun Kq hK => ?_)
              go_simp
              exact hK _ _ ⟨rfl, hSW, fun _ h => h⟩
            | 6, _ =>
              intro bq aq W hSW hf
              have v33 : aq.tmps[33]? = some (.pointer (some ⟨b, 15, none⟩)) := hf.val 5 33 (by kernel_rfl) rfl
              clear hf
              refine wpOp_flow rfl (by rfl) (fun Kq hK => ?_)
              obtain ⟨-, -, c2, c3⟩ := HW.out W hSW.bel
              go_simp
              exact hK _ _ ⟨rfl, hSW, fun _ h => h⟩
            | 7, _ =>
              intro bq aq W hSW hf
              have v3 : aq.tmps[3]? = some (.pointer (some ⟨w.heap.size, 0, none⟩)) := (hf.at_base 3 (by kernel_rfl)).trans rfl
              clear hf
              refine wpOp_flow rfl (by rfl) (fun Kq hK => ?_)
              have d0 := cellOf hSW.box 0 (v := .int .u32 (p.a : Int)) rfl
              have d1 := cellOf hSW.box 1 (v := .int .i64 p.l) rfl
              go_simp
              exact hK _ _ ⟨rfl, hSW, fun _ h => h⟩
            | 8, _ =>
              exact absurd rfl hik
            | 9, _ =>
              intro bq aq W hSW hf
              have v5 : aq.tmps[5]? = some (.pointer (some ⟨w.heap.size + 1, 0, none⟩)) := (hf.at_base 5 (by kernel_rfl)).trans rfl
              clear hf
              refine wpOp_flow rfl (by rfl) (fun Kq hK => ?_)
              go_simp
              exact hK _ _ ⟨rfl, hSW, fun _ h => h⟩
            | 10, _ =>
              intro bq aq W hSW hf
              have v28 : aq.tmps[28]? = some (.int .i64 (1 : Int)) := hf.val 0 28 (by kernel_rfl) rfl
              have v37 : aq.tmps[37]? = some (.pointer (some ⟨w.heap.size + 1, 14, none⟩)) := hf.val 9 37 (by kernel_rfl) rfl
              clear hf
              refine wpOp_flow rfl (by rfl) (fun Kq hK => ?_)
              go_simp
              exact hK _ _ ⟨rfl, hSW, fun _ h => h⟩
            | 11, _ =>
              exact absurd rfl his
            | kq + 12, hk => exact absurd hk (by first | omega | (intro h; simp at h; omega))
          · intro aq W hSW hf
            have v34 : aq.tmps[34]? = some (vr) := hf.val 6 34 (by kernel_rfl) rfl
            have v35 : aq.tmps[35]? = some (.agg #[.int .u32 (p.a : Int), .int .i64 p.l]) := hf.val 7 35 (by kernel_rfl) rfl
            clear hf
            refine wpOp_flow rfl (by rfl) (fun Kq hK => ?_)
            have hsz2 := ltOf (hSW.out rfl)
            go_simp
            refine (IHR.out W (HLR.out.2.1.below hSW.bel) HFK.out).mono ?_
            rintro e w19 ⟨⟨t', rfl, h1, h2, h3⟩, B19⟩
            exact hK _ _ ⟨t'.ptr, rfl, hSW.below B19, t', rfl, h1, h2, fun k hk => by rcases h3 k hk with h | h; exact .inl h; exact .inr (by omega), fun h => by cases h⟩
          · intro u aq W hSW hE hf
            have v36 : aq.tmps[36]? = some (u) := hf.val 8 36 (by kernel_rfl) rfl
            have v38 : aq.tmps[38]? = some (.pointer (some ⟨w.heap.size + 1, 15, none⟩)) := hf.val 10 38 (by kernel_rfl) rfl
            clear hf
            refine wpOp_flow rfl (by rfl) (fun Kq hK => ?_)
            obtain ⟨t', rfl, h1, h2, h3, -⟩ := hE
            have hc := hSW.out rfl
            have hc1 := heap_setCell_same hc 15 t'.ptr
            rw [node_right] at hc1
            have ck := cellOf hc 15 (v := vr) rfl
            have fk := frozenOf hc 15
            have hat : t'.at wA (W.setCell ⟨w.heap.size + 1, 15, none⟩ t'.ptr) := h1.of_heap fun k hk => by
              refine Below.heap_setCell _ _ _ _ (show k ≠ w.heap.size + 1 from ?_)
              rcases h3 k hk with h | h
              · have := HHR.out k h
                omega
              · omega
            have hS7 : Del7 w p (nodeC q hs vv vl vr).toArray true (W.setCell ⟨w.heap.size + 1, 15, none⟩ t'.ptr) := ⟨hSW.bel.setCell (show w.heap.size ≤ w.heap.size + 1 by omega) _, by rw [Below.heap_setCell _ _ _ _ (show w.heap.size ≠ w.heap.size + 1 by omega)]; exact hSW.box, fun h => by cases h⟩
            have hE7 : Del7E wA p w.heap.size r.ab r.blocks (fun u => (nodeC q hs vv vl u).toArray) t'.ptr true (W.setCell ⟨w.heap.size + 1, 15, none⟩ t'.ptr) := ⟨t', rfl, hat, h2, h3, fun _ => hc1⟩
            obtain ⟨o, ho⟩ : ∃ o, t'.ptr = .pointer o := by cases t' <;> exact ⟨_, rfl⟩
            rw [ho] at v36 hS7 hE7
            clear hSW hc hc1 hat h1 h2 h3
            go_simp
            exact hK _ _ ⟨rfl, hS7, by rw [ho]; exact hE7⟩
          · simp only [puts, Act.put, List.setIfInBounds_toArray, List.set_cons_zero, List.set_cons_succ]
            obtain ⟨t', hu, h1, h2, h3, h4⟩ := hE
            have HC := hidp (h4 rfl)
            have HBW := hidp hSW.bel
            have HTW := hidp (And.intro h1 (And.intro h2 h3))
            have HOW := hidp (HLR.out.1.below hSW.bel)
            have HJ := hidp (fun W (h1 : l.at wA W) (h2 : t'.at wA W) => joined_any wA q HLR.out.2.2.2 hs vv l t' W HLR.out.2.2.1 h1 h2)
            rw [← HVP.out.1, ← hu] at HJ
            have HU := hidp hu
            clear h1 h2 h3 h4 hSW hu
            go_wp2_with (first
              | (with_reducible refine wpList_load_row rfl 93 (.tmp 5) rfl (w.heap.size + 1) rfl 93 (nodeC q hs vv vl u).toArray (0, 0) _ HC.out Try.underlying93 rfl (Try.info93n _ _ _ _ _) ?_)
              | (go_at_call 55; refine (HJ.out _ HOW.out HTW.out.1).mono ?_; rintro e w5 ⟨⟨t2, rfl, k1, k2, k3⟩, B5⟩
                 have H5 := hidp (And.intro k1 (And.intro k2 (And.intro k3 B5)))
                 clear k1 k2 k3 B5))
            go_ret
            obtain ⟨k1, k2, k3, B5⟩ := H5.out
            refine ⟨⟨t2, rfl, k1, by rw [HDA.out, ← HTW.out.2.1]; exact k2, fun k hk => ?_⟩, HBW.out.trans (B5.mono HBW.out.size)⟩
            simp only [Tr.blocks, List.mem_cons, List.mem_append]
            rcases k3 k hk with h | h
            · rcases List.mem_append.1 h with h | h
              · exact .inl (.inr (.inl h))
              · rcases HTW.out.2.2 k h with h | h
                · exact .inl (.inr (.inr h))
                · exact .inr (by omega)
            · exact .inr (Nat.le_trans HBW.out.size h)
end Go.Proofs.Ytnenpfalhbbadaa
