/- A trie: put. -/
import Derived.Test.YtnenpfalhbbadaaPC
import Derived.Test.YtnenpfalhbbadaaFlowV
namespace Go.Proofs.Ytnenpfalhbbadaa
open Go.RowKit

def putA : Ab → Pf → Att → Ab
  | .nil, p, v => .node p true v .nil .nil
  | .node q h a l r, p, v =>
    if samePf q p = true then .node p true v l r
    else if coversF q p = true then (if sideF q p = 0 then .node q h a (putA l p v) r else .node q h a l (putA r p v))
    else if coversF p q = true then (if sideF p q = 0 then .node p true v (.node q h a l r) .nil else .node p true v .nil (.node q h a l r))
    else .node (commonF p q) false att0
      (if sideF (commonF p q) q = 0 then .node q h a l r else if sideF (commonF p q) p = 0 then .node p true v .nil .nil else .nil)
      (if sideF (commonF p q) q = 0 then (if sideF (commonF p q) p = 0 then .nil else .node p true v .nil .nil) else .node q h a l r)
theorem norm_ok (x : Nat) (n : Int) : (normF x n).ok := Nat.lt_of_le_of_lt Nat.and_le_right (mask_le _)
theorem common_ok (p q : Pf) : (commonF p q).ok := by
  unfold commonF
  split
  · exact norm_ok _ _
  · show 0 < 4294967296
    omega
abbrev nilp : Value := .pointer none
theorem fold93 (p : Pf) (v : Att) : List.foldl (fun cs (x : Value × Nat) => cs.setIfInBounds (3 + x.snd) x.fst)
    #[.int .u32 (p.a : Int), .int .i64 p.l, .bool true, .int .i64 0, .slice none 0 0, .int .u32 0, .int .i64 0, .int .i64 0, .bool false, .bool false, .int .u32 0, .int .u32 0, .slice none 0 0, .slice none 0 0, nilp, nilp]
    v.cells.zipIdx = (nodeC p true v nilp nilp).toArray := by kernel_rfl
/-- while put goes: the boxes, the fresh node and g stand -/
structure PutS (w : World) (p : Pf) (v : Att) (g : Nat) (C : Array Value) (b : Bool) (W : World) : Prop where
  bel : Below w.heap.size w W
  far : w.heap.size + 1 < g
  box : W.heap[w.heap.size]? = some (.cells #[.int .u32 (p.a : Int), .int .i64 p.l] 44 (0, 0))
  att : W.heap[w.heap.size + 1]? = some (.cells v.cells.toArray 37 (0, 0))
  out : g ≠ w.heap.size + 1 + 1 → W.heap[w.heap.size + 1 + 1]? = some (.cells (nodeC p true v nilp nilp).toArray 93 (0, 0))
  cell : b = false → W.heap[g]? = some (.cells C 93 (0, 0))
  top : ∀ j x, j < 14 → C[j]? = some x → W.cell? ⟨g, j, none⟩ = some x
theorem PutS.below {w W W' : World} {p : Pf} {v : Att} {g : Nat} {C : Array Value} {b : Bool} (h : PutS w p v g C b W) (hB : Below W.heap.size W W') : PutS w p v g C b W' :=
  ⟨h.bel.trans (hB.mono h.bel.size), h.far, heap_below hB h.box (ltOf h.box), heap_below hB h.att (ltOf h.att), fun hg => heap_below hB (h.out hg) (ltOf (h.out hg)), fun hb => heap_below hB (h.cell hb) (ltOf (h.cell hb)),
    fun j x hj hx => below_cell hB (Nat.le_refl _) _ _ (h.top j x hj hx)⟩
theorem PutS.set {w W : World} {p : Pf} {v : Att} {g : Nat} {C : Array Value} {b : Bool} (h : PutS w p v g C b W) (o : Nat) (ho : 14 ≤ o) (x : Value) : PutS w p v g C true (W.setCell ⟨g, o, none⟩ x) := by
  have hf := h.far
  refine ⟨h.bel.setCell (show w.heap.size ≤ g by omega) _, hf, ?_, ?_, fun hg => ?_, fun h => (by cases h), fun j y hj hy => ?_⟩
  · rw [Below.heap_setCell _ _ _ _ (by show w.heap.size ≠ g; omega)]; exact h.box
  · rw [Below.heap_setCell _ _ _ _ (by show w.heap.size + 1 ≠ g; omega)]; exact h.att
  · rw [Below.heap_setCell _ _ _ _ (by show w.heap.size + 1 + 1 ≠ g; exact Ne.symm hg)]; exact h.out hg
  · rw [World.cell?_setCell_other _ _ _ _ (by intro h; simp only [Addr.mk.injEq] at h; omega)]
    exact h.top j y hj hy
theorem PutS.new {w W : World} {p : Pf} {v : Att} (C C' : Array Value) (h : PutS w p v (w.heap.size + 1 + 1) C false W) (hC : C = (nodeC p true v nilp nilp).toArray) : PutS w p v W.heap.size C' false (W.alloc (.cells C' 93)) := by
  subst hC
  have hc := h.cell rfl
  have hl := ltOf hc
  exact ⟨h.bel.alloc h.bel.size _, by omega, heap_alloc_at h.box _, heap_alloc_at h.att _, fun _ => heap_alloc_at hc _, fun _ => heap_alloc_new _ _, fun j x hj hx => cellOf (heap_alloc_new W (.cells C' 93)) j hx⟩
def PutE (g : Nat) (x : Value) (C : Array Value) (u : Value) (b : Bool) (W : World) : Prop := u = x ∧ (b = true → W.heap[g]? = some (.cells C 93 (0, 0)))
/-- put of a kid: what it yields, and where it goes -/
def PutK (wA : World) (p : Pf) (v : Att) (g : Nat) (a : Ab) (bs : List Nat) (C : Value → Array Value) (u : Value) (b : Bool) (W : World) : Prop :=
  ∃ t' : Tr, u = t'.ptr ∧ t'.at wA W ∧ t'.ab = putA a p v ∧ t'.from bs (g + 1) ∧ (b = true → W.heap[g]? = some (.cells (C u) 93 (0, 0)))
def PutB (w : World) (p : Pf) (v : Att) (C : Array Value) (u : Value) (W : World) : Prop := ∃ g, u = .pointer (some ⟨g, 0, none⟩) ∧ g ≠ w.heap.size + 1 + 1 ∧ PutS w p v g C false W
theorem PutB.below {w W W' : World} {p : Pf} {v : Att} {C : Array Value} {u : Value} (h : PutB w p v C u W) (hB : Below W.heap.size W W') : PutB w p v C u W' := by
  obtain ⟨g, h1, h2, h3⟩ := h
  exact ⟨g, h1, h2, h3.below hB⟩
def PutR (wA : World) (p : Pf) (v : Att) (t : Tr) (w : World) (e : Ending) (w' : World) : Prop :=
  (∃ t' : Tr, e = .returned t'.ptr ∧ t'.at wA w' ∧ t'.ab = putA t.ab p v ∧ t'.from t.blocks w.heap.size) ∧ Below w.heap.size w w'
theorem node_kids (p : Pf) (h : Bool) (v : Att) (x y vl vr : Value) : lay (nodeC p h v x y).toArray 14 [vl, vr] = (nodeC p h v vl vr).toArray := by kernel_rfl
theorem info91 (vl vr : Value) : (Try.prog.info? 91).map (·.size) = some [vl, vr].length := by show _ = some 2; kernel_rfl
theorem info91a (vl vr : Value) : (Try.prog.info? 91).map (·.size) = some (#[vl, vr] : Array Value).size := by show _ = some 2; kernel_rfl

theorem from_mk {bs : List Nat} {B g : Nat} {p : Pf} {h : Bool} {v : Att} {X Y : Tr} (hg : B ≤ g) (hX : X.from bs B) (hY : Y.from bs B) : (Tr.node g p h v X Y).from bs B := fun k hk => by
  rcases List.mem_cons.1 hk with rfl | hk
  · exact .inr hg
  · rcases List.mem_append.1 hk with hk | hk
    · exact hX k hk
    · exact hY k hk
theorem from_nil (bs : List Nat) (B : Nat) : Tr.nil.from bs B := fun _ hk => absurd hk List.not_mem_nil
theorem from_self (t : Tr) (B : Nat) : t.from t.blocks B := fun _ hk => .inl hk
theorem kids_one (l r : Tr) : (#[l.ptr, r.ptr] : Array Value).all (·.oneCell') = true := by
  cases l <;> cases r <;> simp [Tr.ptr, Value.oneCell']

set_option maxRecDepth 100000 in
set_option maxHeartbeats 8000000 in
theorem put_any (wA : World) (p : Pf) (hp : p.ok) (v : Att) (hv : v.at wA) : ∀ (t : Tr) (w : World), t.at wA w → Calls Try.prog 58 #[t.ptr, p.val, v.val] w (PutR wA p v t w)
  | .nil, w, h => by
    have hpv : p.val = .agg #[.int .u32 (p.a : Int), .int .i64 p.l] := rfl
    have hvv : v.val = .agg v.cells.toArray := rfl
    have hnv : (Tr.nil).ptr = .pointer none := rfl
    rw [hpv, hvv, hnv]
    clear hpv hvv hnv
    have hlen : v.cells.length = 11 := rfl
    have hiv : Hid ((Try.prog.info? 37).map (·.size) = some v.cells.toArray.size) := Try.info37
    have HB1 := hidp (show ((w.alloc (.cells #[.int .u32 (p.a : Int), .int .i64 p.l] 44)).alloc (.cells v.cells.toArray 37)).heap[w.heap.size + 1]? = some (.cells v.cells.toArray 37 (0, 0)) from heap_alloc_top _ _ _ (by simp))
    have H := hidp (And.intro hp hv)
    clear hp hv h
    go_enter Try.func58, Try.ntmps58
    go_upto_region 3 with (first
      | (with_reducible refine wpList_load_row rfl 37 (.tmp 5) rfl (w.heap.size + 1) rfl 37 v.cells.toArray (0, 0) _ HB1.out Try.underlying37 rfl hiv.out ?_))
    rw [fold93]
    go_wp2
    go_ret
    have hb := (((Below.refl w.heap.size w).alloc (Nat.le_refl _) (.cells #[.int .u32 (p.a : Int), .int .i64 p.l] 44)).alloc (by simp) (.cells v.cells.toArray 37)).alloc (by simp; omega) (.cells (nodeC p true v nilp nilp).toArray 93)
    exact ⟨⟨.node (w.heap.size + 1 + 1) p true v .nil .nil, rfl, ⟨heap_alloc_top _ _ _ (by simp), H.out.1, H.out.2, trivial, trivial⟩, rfl, fun k hk => .inr (by simp [Tr.blocks] at hk; omega)⟩, hb⟩
  | .node b q hs vv l r, w, h => by
    have IHL := hidp (put_any wA p hp v hv l)
    have IHR := hidp (put_any wA p hp v hv r)
    have hpv : p.val = .agg #[.int .u32 (p.a : Int), .int .i64 p.l] := rfl
    have hvv : v.val = .agg v.cells.toArray := rfl
    have hpt : (Tr.node b q hs vv l r).ptr = .pointer (some ⟨b, 0, none⟩) := rfl
    rw [hpv, hvv] at IHL IHR
    rw [hpv, hvv, hpt]
    have hlen : v.cells.length = 11 := rfl
    have hiv : Hid ((Try.prog.info? 37).map (·.size) = some v.cells.toArray.size) := Try.info37
    have HX := hidp h
    obtain ⟨hb, hq, hvv', hl, hr⟩ := h
    have hsz := ltOf hb
    have HV := hidp (And.intro hp (And.intro hv (And.intro hq hvv')))
    have HLR := hidp (And.intro hl hr)
    have HHL := hidp hl.lt
    have HHR := hidp hr.lt
    have HNO := hidp (node_one q hs vv l r)
    obtain ⟨vl, hvl⟩ : ∃ vl, vl = l.ptr := ⟨_, rfl⟩
    obtain ⟨vr, hvr⟩ : ∃ vr, vr = r.ptr := ⟨_, rfl⟩
    have HK1 := hidp (kids_one l r)
    rw [← hvl, ← hvr] at hb HNO HK1
    rw [← hvl] at IHL
    rw [← hvr] at IHR
    have HVP := hidp (And.intro hvl hvr)
    have HBb := hidp hb
    have HB1 := hidp (show ((w.alloc (.cells #[.int .u32 (p.a : Int), .int .i64 p.l] 44)).alloc (.cells v.cells.toArray 37)).heap[w.heap.size + 1]? = some (.cells v.cells.toArray 37 (0, 0)) from heap_alloc_top _ _ _ (by simp))
    have h0 : PutS w p v (w.heap.size + 1 + 1) (nodeC p true v nilp nilp).toArray false (((w.alloc (.cells #[.int .u32 (p.a : Int), .int .i64 p.l] 44)).alloc (.cells v.cells.toArray 37)).alloc (.cells (nodeC p true v nilp nilp).toArray 93)) := by
      have hc : (((w.alloc (.cells #[.int .u32 (p.a : Int), .int .i64 p.l] 44)).alloc (.cells v.cells.toArray 37)).alloc (.cells (nodeC p true v nilp nilp).toArray 93)).heap[w.heap.size + 1 + 1]? = some (.cells (nodeC p true v nilp nilp).toArray 93 (0, 0)) := heap_alloc_top _ _ _ (by simp)
      exact ⟨(((Below.refl w.heap.size w).alloc (Nat.le_refl _) _).alloc (by simp) _).alloc (by simp; omega) _, by omega, heap_alloc_at (heap_alloc_at (heap_alloc_new w _) _) _, heap_alloc_at (heap_alloc_top _ _ _ (by simp)) _, fun h => absurd rfl h, fun _ => hc, fun j x _ hx => cellOf hc j hx⟩
    have HD := hidp h0
    have hw1 : ∀ (W : World), Below w.heap.size w W → W.cell? ⟨b, 0, none⟩ = some (.int .u32 (q.a : Int)) ∧ W.cell? ⟨b, 1, none⟩ = some (.int .i64 q.l) ∧ W.cell? ⟨b, 14, none⟩ = some vl ∧ W.cell? ⟨b, 15, none⟩ = some vr := fun W hW => by
      have k := heap_below hW HBb.out hsz
      exact ⟨cellOf k 0 rfl, cellOf k 1 rfl, cellOf k 14 rfl, cellOf k 15 rfl⟩
    have HW := hidp hw1
    have hnl : (nodeC q hs vv vl vr).length = 16 := rfl
    clear hp hv hb hq hvv' hl hr hvl hvr hpv hvv hpt h0 hw1
    go_enter Try.func58, Try.ntmps58
    go_upto_region 4 with (first
      | (with_reducible refine wpList_load_row rfl 37 (.tmp 5) rfl (w.heap.size + 1) rfl 37 v.cells.toArray (0, 0) _ HB1.out Try.underlying37 rfl hiv.out ?_))
    rw [fold93]
    generalize ((w.alloc (.cells #[.int .u32 (p.a : Int), .int .i64 p.l] 44)).alloc (.cells v.cells.toArray 37)).alloc (.cells (nodeC p true v nilp nilp).toArray 93) = w1 at *
    obtain ⟨c0, c1, -, -⟩ := HW.out w1 HD.out.bel
    have d0 := cellOf HD.out.box 0 (v := .int .u32 (p.a : Int)) rfl
    have d1 := cellOf HD.out.box 1 (v := .int .i64 p.l) rfl
    have heq := eq44
    clear HB1
    by_cases hsm : samePf q p = true
    · have l1 : ((q.a : Int) == (p.a : Int) && q.l == p.l) = true := hsm
      go_quiet (fail)
      have HD2 := hidp (HD.out.below (below_drewN (Below.refl w1.heap.size w1) nq))
      generalize w1.drewN nq = w2 at *
      have HPA := hidp (show putA (Tr.node b q hs vv l r).ab p v = .node p true v l.ab r.ab by show putA (.node q hs vv l.ab r.ab) p v = _; rw [putA, if_pos hsm])
      have HRG := hidp (show w2.rangeAt b 14 [vl, vr] from fun j x hx => by
        obtain ⟨-, -, k2, k3⟩ := HW.out w2 HD2.out.bel
        match j, hx with
        | 0, hx => cases hx; exact k2
        | 1, hx => cases hx; exact k3)
      have HTH := hidp (there_of (HD2.out.cell rfl) 14 (#[vl, vr] : Array Value).size (by show 14 + 2 ≤ 16; decide))
      clear c0 c1 d0 d1 heq l1 hsm HD
      go_wp2_with (first
        | (with_reducible refine wpList_load_mid rfl 91 (.tmp 28) rfl b 14 rfl [vl, vr] _ HRG.out Try.underlying91 rfl (info91 vl vr) ?_)
        | (with_reducible refine wpList_store_mid rfl 91 (.tmp 31) (.tmp 29) rfl (w.heap.size + 1 + 1) 14 #[vl, vr] rfl rfl HTH.out (info91a vl vr) HK1.out ?_))
      go_ret
      have hc := heap_setCells [vl, vr] w2 _ 14 (HD2.out.cell rfl)
      rw [node_kids] at hc
      have hbe := below_setCells (show w.heap.size ≤ w.heap.size + 1 + 1 by omega) [vl, vr] w2 14 HD2.out.bel
      rw [HVP.out.1, HVP.out.2] at hc hbe
      have hres : PutR wA p v (.node b q hs vv l r) w (.returned (.pointer (some ⟨w.heap.size + 1 + 1, 0, none⟩))) (w2.setCells (w.heap.size + 1 + 1) 14 [l.ptr, r.ptr]) :=
        ⟨⟨.node (w.heap.size + 1 + 1) p true v l r, rfl, ⟨hc, HV.out.1, HV.out.2.1, HLR.out.1.below hbe, HLR.out.2.below hbe⟩, by rw [HPA.out]; rfl, fun k hk => by
          rcases List.mem_cons.1 hk with rfl | hk
          · exact .inr (by omega)
          · exact .inl (List.mem_cons_of_mem _ hk)⟩, hbe⟩
      rw [HVP.out.1, HVP.out.2]
      exact hres
    · have l1 : ((q.a : Int) == (p.a : Int) && q.l == p.l) = false := by
        rw [← Bool.not_eq_true]
        exact hsm
      go_quiet (fail)
      have HD2 := hidp (HD.out.below (below_drewN (Below.refl w1.heap.size w1) nq))
      generalize w1.drewN nq = w2 at *
      have HSM := hidp hsm
      obtain ⟨cv, hcv⟩ : ∃ cv, coversF q p = cv := ⟨_, rfl⟩
      have HCV := hidp hcv
      clear c0 c1 d0 d1 heq l1 hsm hcv HD
      go_wp2
      have hd2 : Below w2.heap.size w2 w2.drew := (Below.refl _ _).drew
      refine wp_region_flow2 (fun iqv => ([(.pointer (some ⟨b, 0, none⟩) : Value), (.pointer (some ⟨b, 0, none⟩) : Value), (.pointer (some ⟨b, 0, none⟩) : Value), (.agg #[.int .u32 (q.a : Int), .int .i64 q.l] : Value), (.agg #[.int .u32 (p.a : Int), .int .i64 p.l] : Value), (.bool cv : Value), (.bool cv : Value)] : List Value).getD iqv undef) [(some 34, .pointer (some ⟨b, 0, none⟩)), (some 35, .pointer (some ⟨b, 0, none⟩)), (some 36, .pointer (some ⟨b, 0, none⟩)), (some 37, .agg #[.int .u32 (q.a : Int), .int .i64 q.l]), (some 38, .agg #[.int .u32 (p.a : Int), .int .i64 p.l]), (some 39, .bool cv), (some 33, .bool cv)] (fun W : World => Below w2.heap.size w2 W) (by kernel_rfl) (by kernel_rfl) hd2 (fun iq hiq => ?_) (by kernel_rfl) (fun W hSW => ?_)
      · match iq, hiq with
        | 0, _ =>
          intro aq W hSW hf
          have v0 : aq.tmps[0]? = some (.pointer (some ⟨b, 0, none⟩)) := (hf.at_base 0 (by kernel_rfl)).trans rfl
          clear hf
          refine wpOp_flow rfl (by rfl) (fun Kq hK => ?_)
          go_simp
          exact hK _ _ ⟨rfl, hSW⟩
        | 1, _ =>
          intro aq W hSW hf
          have v34 : aq.tmps[34]? = some (.pointer (some ⟨b, 0, none⟩)) := hf.val 0 34 (by kernel_rfl) rfl
          clear hf
          refine wpOp_flow rfl (by rfl) (fun Kq hK => ?_)
          go_simp
          exact hK _ _ ⟨rfl, hSW⟩
        | 2, _ =>
          intro aq W hSW hf
          have v35 : aq.tmps[35]? = some (.pointer (some ⟨b, 0, none⟩)) := hf.val 1 35 (by kernel_rfl) rfl
          clear hf
          refine wpOp_flow rfl (by rfl) (fun Kq hK => ?_)
          go_simp
          exact hK _ _ ⟨rfl, hSW⟩
        | 3, _ =>
          intro aq W hSW hf
          have v36 : aq.tmps[36]? = some (.pointer (some ⟨b, 0, none⟩)) := hf.val 2 36 (by kernel_rfl) rfl
          clear hf
          refine wpOp_flow rfl (by rfl) (fun Kq hK => ?_)
          obtain ⟨c0, c1, -, -⟩ := HW.out W (HD2.out.bel.trans (hSW.mono HD2.out.bel.size))
          go_simp
          exact hK _ _ ⟨rfl, hSW⟩
        | 4, _ =>
          intro aq W hSW hf
          have v4 : aq.tmps[4]? = some (.pointer (some ⟨w.heap.size, 0, none⟩)) := (hf.at_base 4 (by kernel_rfl)).trans rfl
          clear hf
          refine wpOp_flow rfl (by rfl) (fun Kq hK => ?_)
          have hx := HD2.out.below hSW
          have d0 := cellOf hx.box 0 (v := .int .u32 (p.a : Int)) rfl
          have d1 := cellOf hx.box 1 (v := .int .i64 p.l) rfl
          clear hx
          go_simp
          exact hK _ _ ⟨rfl, hSW⟩
        | 5, _ =>
          intro aq W hSW hf
          have v37 : aq.tmps[37]? = some (.agg #[.int .u32 (q.a : Int), .int .i64 q.l]) := hf.val 3 37 (by kernel_rfl) rfl
          have v38 : aq.tmps[38]? = some (.agg #[.int .u32 (p.a : Int), .int .i64 p.l]) := hf.val 4 38 (by kernel_rfl) rfl
          clear hf
          refine wpOp_flow rfl (by rfl) (fun Kq hK => ?_)
          go_simp
          refine (covers_any q p HV.out.2.2.1 HV.out.1 _).mono ?_
          rw [HCV.out]
          rintro e w19 ⟨rfl, B19⟩
          exact hK _ _ ⟨rfl, hSW.trans (B19.mono hSW.size)⟩
        | 6, _ =>
          intro aq W hSW hf
          have v39 : aq.tmps[39]? = some (.bool cv) := hf.val 5 39 (by kernel_rfl) rfl
          clear hf
          refine wpOp_flow rfl (by rfl) (fun Kq hK => ?_)
          go_simp
          exact hK _ _ ⟨rfl, hSW⟩
        | kq + 7, hk => exact absurd hk (by first | omega | (intro h; simp at h; omega))
      · simp only [puts, Act.put, List.setIfInBounds_toArray, List.set_cons_zero, List.set_cons_succ]
        have h8 := HD2.out.below hSW
        clear hSW
        cases cv with
        | true =>
          have HBW := hidp (heap_below h8.bel HBb.out hsz)
          have H9 := hidp (h8.new _ (nodeC q hs vv vl vr).toArray rfl)
          obtain ⟨g, hg⟩ : ∃ g, g = W.heap.size := ⟨_, rfl⟩
          have HG := hidp (show w.heap.size + 1 < g by rw [hg]; exact Nat.lt_trans (Nat.lt_succ_self _) (ltOf (h8.cell rfl)))
          rw [← hg] at H9
          clear h8
          go_upto_region 9 with (first
            | (with_reducible refine wpList_load_row rfl 93 (.tmp 41) rfl b rfl 93 (nodeC q hs vv vl vr).toArray (0, 0) _ HBW.out Try.underlying93 rfl (Try.info93n _ _ _ _ _) ?_)
            | (with_reducible refine wpList_store_row rfl 93 (.tmp 8) (.tmp 42) rfl W.heap.size (nodeC q hs vv vl vr).toArray rfl rfl 93 _ (heap_alloc_new _ _) (Try.info93n _ _ _ _ _) rfl HNO.out ?_
               rw [alloc_fill _ rfl]))
          rw [← hg]
          clear hg HBW
          generalize W.alloc (.cells (nodeC q hs vv vl vr).toArray 93) = w4 at *
          have hd4 : Below w4.heap.size w4 w4.drew := (Below.refl _ _).drew
          rcases side_lt q p with hs' | hs'
          · have HSD := hidp hs'
            have HPA := hidp (show putA (Tr.node b q hs vv l r).ab p v = .node q hs vv (putA l.ab p v) r.ab by show putA (.node q hs vv l.ab r.ab) p v = _; rw [putA, if_neg HSM.out, if_pos HCV.out, if_pos hs'])
            clear hs'
            refine wp_region_flow2 (fun iqv => ([(.pointer (some ⟨b, 0, none⟩) : Value), (.pointer (some ⟨b, 0, none⟩) : Value), (.pointer (some ⟨b, 0, none⟩) : Value), (.agg #[.int .u32 (q.a : Int), .int .i64 q.l] : Value), (.agg #[.int .u32 (p.a : Int), .int .i64 p.l] : Value), (.int .i64 (0 : Int) : Value), (.int .i64 (0 : Int) : Value)] : List Value).getD iqv undef) [(some 43, .pointer (some ⟨b, 0, none⟩)), (some 44, .pointer (some ⟨b, 0, none⟩)), (some 45, .pointer (some ⟨b, 0, none⟩)), (some 46, .agg #[.int .u32 (q.a : Int), .int .i64 q.l]), (some 47, .agg #[.int .u32 (p.a : Int), .int .i64 p.l]), (some 48, .int .i64 (0 : Int)), (some 9, .int .i64 (0 : Int))] (fun W : World => Below w4.heap.size w4 W) (by kernel_rfl) (by kernel_rfl) hd4 (fun iq hiq => ?_) (by kernel_rfl) (fun W hSW => ?_)
            · match iq, hiq with
              | 0, _ =>
                intro aq W hSW hf
                have v0 : aq.tmps[0]? = some (.pointer (some ⟨b, 0, none⟩)) := (hf.at_base 0 (by kernel_rfl)).trans rfl
                clear hf
                refine wpOp_flow rfl (by rfl) (fun Kq hK => ?_)
                go_simp
                exact hK _ _ ⟨rfl, hSW⟩
              | 1, _ =>
                intro aq W hSW hf
                have v43 : aq.tmps[43]? = some (.pointer (some ⟨b, 0, none⟩)) := hf.val 0 43 (by kernel_rfl) rfl
                clear hf
                refine wpOp_flow rfl (by rfl) (fun Kq hK => ?_)
                go_simp
                exact hK _ _ ⟨rfl, hSW⟩
              | 2, _ =>
                intro aq W hSW hf
                have v44 : aq.tmps[44]? = some (.pointer (some ⟨b, 0, none⟩)) := hf.val 1 44 (by kernel_rfl) rfl
                clear hf
                refine wpOp_flow rfl (by rfl) (fun Kq hK => ?_)
                go_simp
                exact hK _ _ ⟨rfl, hSW⟩
              | 3, _ =>
                intro aq W hSW hf
                have v45 : aq.tmps[45]? = some (.pointer (some ⟨b, 0, none⟩)) := hf.val 2 45 (by kernel_rfl) rfl
                clear hf
                refine wpOp_flow rfl (by rfl) (fun Kq hK => ?_)
                obtain ⟨c0, c1, -, -⟩ := HW.out W (H9.out.bel.trans (hSW.mono H9.out.bel.size))
                go_simp
                exact hK _ _ ⟨rfl, hSW⟩
              | 4, _ =>
                intro aq W hSW hf
                have v4 : aq.tmps[4]? = some (.pointer (some ⟨w.heap.size, 0, none⟩)) := (hf.at_base 4 (by kernel_rfl)).trans rfl
                clear hf
                refine wpOp_flow rfl (by rfl) (fun Kq hK => ?_)
                have hx := H9.out.below hSW
                have d0 := cellOf hx.box 0 (v := .int .u32 (p.a : Int)) rfl
                have d1 := cellOf hx.box 1 (v := .int .i64 p.l) rfl
                clear hx
                go_simp
                exact hK _ _ ⟨rfl, hSW⟩
              | 5, _ =>
                intro aq W hSW hf
                have v46 : aq.tmps[46]? = some (.agg #[.int .u32 (q.a : Int), .int .i64 q.l]) := hf.val 3 46 (by kernel_rfl) rfl
                have v47 : aq.tmps[47]? = some (.agg #[.int .u32 (p.a : Int), .int .i64 p.l]) := hf.val 4 47 (by kernel_rfl) rfl
                clear hf
                refine wpOp_flow rfl (by rfl) (fun Kq hK => ?_)
                go_simp
                refine (side_any q p HV.out.1 _).mono ?_
                rw [HSD.out]
                rintro e w19 ⟨rfl, B19⟩
                exact hK _ _ ⟨rfl, hSW.trans (B19.mono hSW.size)⟩
              | 6, _ =>
                intro aq W hSW hf
                have v48 : aq.tmps[48]? = some (.int .i64 (0 : Int)) := hf.val 5 48 (by kernel_rfl) rfl
                clear hf
                refine wpOp_flow rfl (by rfl) (fun Kq hK => ?_)
                go_simp
                exact hK _ _ ⟨rfl, hSW⟩
              | kq + 7, hk => exact absurd hk (by first | omega | (intro h; simp at h; omega))
            · simp only [puts, Act.put, List.setIfInBounds_toArray, List.set_cons_zero, List.set_cons_succ]
              have h9 := H9.out.below hSW
              clear hSW
              go_wp2
              have h9d : PutS w p v g (nodeC q hs vv vl vr).toArray false W.drew := h9.below (Below.refl _ _).drew
              clear h9
              refine wp_region_flowU (fun iqv => ([(.int .i64 (0 : Int) : Value), (.pointer (some ⟨b, 0, none⟩) : Value), (.int .i64 (0 : Int) : Value), (.pointer (some ⟨b, 0, none⟩) : Value), (.pointer (some ⟨b, 14, none⟩) : Value), (.pointer (some ⟨b, 14, none⟩) : Value), (vl : Value), (.agg #[.int .u32 (p.a : Int), .int .i64 p.l] : Value), (.agg v.cells.toArray : Value), (undef : Value), (.pointer (some ⟨g, 14, none⟩) : Value), (.pointer (some ⟨g, 14, none⟩) : Value), (undef : Value)] : List Value).getD iqv undef) 9 12 (fun bb W => PutS w p v g (nodeC q hs vv vl vr).toArray bb W) (fun u bb W => PutK wA p v g l.ab l.blocks (fun u => (nodeC q hs vv u vr).toArray) u bb W) (fun u => [(some 49, .int .i64 (0 : Int)), (some 50, .pointer (some ⟨b, 0, none⟩)), (some 51, .int .i64 (0 : Int)), (some 52, .pointer (some ⟨b, 0, none⟩)), (some 53, .pointer (some ⟨b, 14, none⟩)), (some 54, .pointer (some ⟨b, 14, none⟩)), (some 55, vl), (some 56, .agg #[.int .u32 (p.a : Int), .int .i64 p.l]), (some 57, .agg v.cells.toArray), (some 58, u), (some 59, .pointer (some ⟨g, 14, none⟩)), (some 60, .pointer (some ⟨g, 14, none⟩)), (none, undef)]) (by kernel_rfl) (by kernel_rfl) (of_decide_eq_true (by kernel_rfl)) (of_decide_eq_true (by kernel_rfl)) (by kernel_rfl) (by kernel_rfl) (by kernel_rfl) h9d (fun iq hiq hik his => ?_) ?_ ?_ (fun u => by kernel_rfl) (fun u W hSW hE => ?_)
              · match iq, hiq with
                | 0, _ =>
                  intro bq aq W hSW hf
                  have v9 : aq.tmps[9]? = some (.int .i64 (0 : Int)) := (hf.at_base 9 (by kernel_rfl)).trans rfl
                  clear hf
                  refine wpOp_flow rfl (by rfl) (fun Kq hK => ?_)
                  go_simp
                  exact hK _ _ ⟨rfl, hSW, fun _ h => h⟩
                | 1, _ =>
                  intro bq aq W hSW hf
                  have v0 : aq.tmps[0]? = some (.pointer (some ⟨b, 0, none⟩)) := (hf.at_base 0 (by kernel_rfl)).trans rfl
                  clear hf
                  refine wpOp_flow rfl (by rfl) (fun Kq hK => ?_)
                  go_simp
                  exact hK _ _ ⟨rfl, hSW, fun _ h => h⟩
                | 2, _ =>
                  intro bq aq W hSW hf
                  have v9 : aq.tmps[9]? = some (.int .i64 (0 : Int)) := (hf.at_base 9 (by kernel_rfl)).trans rfl
                  clear hf
                  refine wpOp_flow rfl (by rfl) (fun Kq hK => ?_)
                  go_simp
                  exact hK _ _ ⟨rfl, hSW, fun _ h => h⟩
                | 3, _ =>
                  intro bq aq W hSW hf
                  have v50 : aq.tmps[50]? = some (.pointer (some ⟨b, 0, none⟩)) := hf.val 1 50 (by kernel_rfl) rfl
                  clear hf
                  refine wpOp_flow rfl (by rfl) (fun Kq hK => ?_)
                  go_simp
                  exact hK _ _ ⟨rfl, hSW, fun _ h => h⟩
                | 4, _ =>
                  intro bq aq W hSW hf
                  have v52 : aq.tmps[52]? = some (.pointer (some ⟨b, 0, none⟩)) := hf.val 3 52 (by kernel_rfl) rfl
                  clear hf
                  refine wpOp_flow rfl (by rfl) (fun Kq hK => ?_)
                  go_simp
                  exact hK _ _ ⟨rfl, hSW, fun _ h => h⟩
                | 5, _ =>
                  intro bq aq W hSW hf
                  have v51 : aq.tmps[51]? = some (.int .i64 (0 : Int)) := hf.val 2 51 (by kernel_rfl) rfl
                  have v53 : aq.tmps[53]? = some (.pointer (some ⟨b, 14, none⟩)) := hf.val 4 53 (by kernel_rfl) rfl
                  clear hf
                  refine wpOp_flow rfl (by rfl) (fun Kq hK => ?_)
                  go_simp
                  exact hK _ _ ⟨rfl, hSW, fun _ h => h⟩
                | 6, _ =>
                  intro bq aq W hSW hf
                  have v54 : aq.tmps[54]? = some (.pointer (some ⟨b, 14, none⟩)) := hf.val 5 54 (by kernel_rfl) rfl
                  clear hf
                  refine wpOp_flow rfl (by rfl) (fun Kq hK => ?_)
                  obtain ⟨-, -, c2, c3⟩ := HW.out W hSW.bel
                  go_simp
                  exact hK _ _ ⟨rfl, hSW, fun _ h => h⟩
                | 7, _ =>
                  intro bq aq W hSW hf
                  have v4 : aq.tmps[4]? = some (.pointer (some ⟨w.heap.size, 0, none⟩)) := (hf.at_base 4 (by kernel_rfl)).trans rfl
                  clear hf
                  refine wpOp_flow rfl (by rfl) (fun Kq hK => ?_)
                  have hx := hSW
                  have d0 := cellOf hx.box 0 (v := .int .u32 (p.a : Int)) rfl
                  have d1 := cellOf hx.box 1 (v := .int .i64 p.l) rfl
                  clear hx
                  go_simp
                  exact hK _ _ ⟨rfl, hSW, fun _ h => h⟩
                | 8, _ =>
                  intro bq aq W hSW hf
                  have v5 : aq.tmps[5]? = some (.pointer (some ⟨w.heap.size + 1, 0, none⟩)) := (hf.at_base 5 (by kernel_rfl)).trans rfl
                  clear hf
                  refine wpOp_flow rfl (by rfl) (fun Kq hK => ?_)
                  refine wp_load_row 37 (.tmp 5) rfl (w.heap.size + 1) (eval_of v5) 37 v.cells.toArray (0, 0) _ hSW.att Try.underlying37 rfl hiv.out (hK _ _ ⟨rfl, hSW, fun _ h => h⟩)
                | 9, _ =>
                  exact absurd rfl hik
                | 10, _ =>
                  intro bq aq W hSW hf
                  have v8 : aq.tmps[8]? = some (.pointer (some ⟨g, 0, none⟩)) := (hf.at_base 8 (by kernel_rfl)).trans rfl
                  clear hf
                  refine wpOp_flow rfl (by rfl) (fun Kq hK => ?_)
                  go_simp
                  exact hK _ _ ⟨rfl, hSW, fun _ h => h⟩
                | 11, _ =>
                  intro bq aq W hSW hf
                  have v49 : aq.tmps[49]? = some (.int .i64 (0 : Int)) := hf.val 0 49 (by kernel_rfl) rfl
                  have v59 : aq.tmps[59]? = some (.pointer (some ⟨g, 14, none⟩)) := hf.val 10 59 (by kernel_rfl) rfl
                  clear hf
                  refine wpOp_flow rfl (by rfl) (fun Kq hK => ?_)
                  go_simp
                  exact hK _ _ ⟨rfl, hSW, fun _ h => h⟩
                | 12, _ =>
                  exact absurd rfl his
                | kq + 13, hk => exact absurd hk (by first | omega | (intro h; simp at h; omega))
              · intro aq W hSW hf
                have v55 : aq.tmps[55]? = some (vl) := hf.val 6 55 (by kernel_rfl) rfl
                have v56 : aq.tmps[56]? = some (.agg #[.int .u32 (p.a : Int), .int .i64 p.l]) := hf.val 7 56 (by kernel_rfl) rfl
                have v57 : aq.tmps[57]? = some (.agg v.cells.toArray) := hf.val 8 57 (by kernel_rfl) rfl
                clear hf
                refine wpOp_flow rfl (by rfl) (fun Kq hK => ?_)
                have hsz2 := ltOf (hSW.cell rfl)
                go_simp
                refine (IHL.out W (HLR.out.1.below hSW.bel)).mono ?_
                rintro e w19 ⟨⟨t', rfl, h1, h2, h3⟩, B19⟩
                exact hK _ _ ⟨t'.ptr, rfl, hSW.below B19, t', rfl, h1, h2, fun k hk => by rcases h3 k hk with h | h; exact .inl h; exact .inr (by omega), fun h => by cases h⟩
              · intro u aq W hSW hE hf
                have v58 : aq.tmps[58]? = some (u) := hf.val 9 58 (by kernel_rfl) rfl
                have v60 : aq.tmps[60]? = some (.pointer (some ⟨g, 14, none⟩)) := hf.val 11 60 (by kernel_rfl) rfl
                clear hf
                refine wpOp_flow rfl (by rfl) (fun Kq hK => ?_)
                obtain ⟨t', rfl, h1, h2, h3, -⟩ := hE
                have hc := hSW.cell rfl
                have hc1 := heap_setCell_same hc 14 t'.ptr
                rw [node_left] at hc1
                have ck := cellOf hc 14 (v := vl) rfl
                have fk := frozenOf hc 14
                have hgw := HG.out
                have hat : t'.at wA (W.setCell ⟨g, 14, none⟩ t'.ptr) := h1.of_heap fun k hk => by
                  refine Below.heap_setCell _ _ _ _ (show k ≠ g from ?_)
                  rcases h3 k hk with h | h
                  · have := HHL.out k h
                    omega
                  · omega
                have hS7 := hSW.set 14 (by omega) t'.ptr
                have hE7 : PutK wA p v g l.ab l.blocks (fun u => (nodeC q hs vv u vr).toArray) t'.ptr true (W.setCell ⟨g, 14, none⟩ t'.ptr) := ⟨t', rfl, hat, h2, h3, fun _ => hc1⟩
                obtain ⟨o, ho⟩ : ∃ o, t'.ptr = .pointer o := by cases t' <;> exact ⟨_, rfl⟩
                rw [ho] at v58 hS7 hE7
                clear hSW hc hc1 hat h1 h2 h3
                go_simp
                exact hK _ _ ⟨rfl, hS7, by rw [ho]; exact hE7⟩
              · simp only [puts, Act.put, List.setIfInBounds_toArray, List.set_cons_zero, List.set_cons_succ]
                obtain ⟨t', hu, h1, h2, h3, h4⟩ := hE
                have hc := h4 rfl
                rw [hu] at hc
                rw [HVP.out.2] at hc
                have HRES : Hid (PutR wA p v (Tr.node b q hs vv l r) w (.returned (.pointer (some ⟨g, 0, none⟩))) W) := by
                  refine ⟨⟨.node g q hs vv t' r, rfl, ⟨hc, HV.out.2.2.1, HV.out.2.2.2, h1, HLR.out.2.below hSW.bel⟩, by rw [HPA.out, ← h2]; rfl, fun k hk => ?_⟩, hSW.bel⟩
                  have hgw := HG.out
                  simp only [Tr.blocks, List.mem_cons, List.mem_append] at hk ⊢
                  rcases hk with rfl | hk | hk
                  · exact .inr (by omega)
                  · rcases h3 k hk with h | h
                    · exact .inl (.inr (.inl h))
                    · exact .inr (by omega)
                  · exact .inl (.inr (.inr hk))
                clear hSW hu h1 h2 h3 h4 hc
                go_wp2
                go_ret
                exact HRES.out
          · have HSD := hidp hs'
            have HPA := hidp (show putA (Tr.node b q hs vv l r).ab p v = .node q hs vv l.ab (putA r.ab p v) by show putA (.node q hs vv l.ab r.ab) p v = _; rw [putA, if_neg HSM.out, if_pos HCV.out, if_neg (by omega)])
            clear hs'
            refine wp_region_flow2 (fun iqv => ([(.pointer (some ⟨b, 0, none⟩) : Value), (.pointer (some ⟨b, 0, none⟩) : Value), (.pointer (some ⟨b, 0, none⟩) : Value), (.agg #[.int .u32 (q.a : Int), .int .i64 q.l] : Value), (.agg #[.int .u32 (p.a : Int), .int .i64 p.l] : Value), (.int .i64 (1 : Int) : Value), (.int .i64 (1 : Int) : Value)] : List Value).getD iqv undef) [(some 43, .pointer (some ⟨b, 0, none⟩)), (some 44, .pointer (some ⟨b, 0, none⟩)), (some 45, .pointer (some ⟨b, 0, none⟩)), (some 46, .agg #[.int .u32 (q.a : Int), .int .i64 q.l]), (some 47, .agg #[.int .u32 (p.a : Int), .int .i64 p.l]), (some 48, .int .i64 (1 : Int)), (some 9, .int .i64 (1 : Int))] (fun W : World => Below w4.heap.size w4 W) (by kernel_rfl) (by kernel_rfl) hd4 (fun iq hiq => ?_) (by kernel_rfl) (fun W hSW => ?_)
            · match iq, hiq with
              | 0, _ =>
                intro aq W hSW hf
                have v0 : aq.tmps[0]? = some (.pointer (some ⟨b, 0, none⟩)) := (hf.at_base 0 (by kernel_rfl)).trans rfl
                clear hf
                refine wpOp_flow rfl (by rfl) (fun Kq hK => ?_)
                go_simp
                exact hK _ _ ⟨rfl, hSW⟩
              | 1, _ =>
                intro aq W hSW hf
                have v43 : aq.tmps[43]? = some (.pointer (some ⟨b, 0, none⟩)) := hf.val 0 43 (by kernel_rfl) rfl
                clear hf
                refine wpOp_flow rfl (by rfl) (fun Kq hK => ?_)
                go_simp
                exact hK _ _ ⟨rfl, hSW⟩
              | 2, _ =>
                intro aq W hSW hf
                have v44 : aq.tmps[44]? = some (.pointer (some ⟨b, 0, none⟩)) := hf.val 1 44 (by kernel_rfl) rfl
                clear hf
                refine wpOp_flow rfl (by rfl) (fun Kq hK => ?_)
                go_simp
                exact hK _ _ ⟨rfl, hSW⟩
              | 3, _ =>
                intro aq W hSW hf
                have v45 : aq.tmps[45]? = some (.pointer (some ⟨b, 0, none⟩)) := hf.val 2 45 (by kernel_rfl) rfl
                clear hf
                refine wpOp_flow rfl (by rfl) (fun Kq hK => ?_)
                obtain ⟨c0, c1, -, -⟩ := HW.out W (H9.out.bel.trans (hSW.mono H9.out.bel.size))
                go_simp
                exact hK _ _ ⟨rfl, hSW⟩
              | 4, _ =>
                intro aq W hSW hf
                have v4 : aq.tmps[4]? = some (.pointer (some ⟨w.heap.size, 0, none⟩)) := (hf.at_base 4 (by kernel_rfl)).trans rfl
                clear hf
                refine wpOp_flow rfl (by rfl) (fun Kq hK => ?_)
                have hx := H9.out.below hSW
                have d0 := cellOf hx.box 0 (v := .int .u32 (p.a : Int)) rfl
                have d1 := cellOf hx.box 1 (v := .int .i64 p.l) rfl
                clear hx
                go_simp
                exact hK _ _ ⟨rfl, hSW⟩
              | 5, _ =>
                intro aq W hSW hf
                have v46 : aq.tmps[46]? = some (.agg #[.int .u32 (q.a : Int), .int .i64 q.l]) := hf.val 3 46 (by kernel_rfl) rfl
                have v47 : aq.tmps[47]? = some (.agg #[.int .u32 (p.a : Int), .int .i64 p.l]) := hf.val 4 47 (by kernel_rfl) rfl
                clear hf
                refine wpOp_flow rfl (by rfl) (fun Kq hK => ?_)
                go_simp
                refine (side_any q p HV.out.1 _).mono ?_
                rw [HSD.out]
                rintro e w19 ⟨rfl, B19⟩
                exact hK _ _ ⟨rfl, hSW.trans (B19.mono hSW.size)⟩
              | 6, _ =>
                intro aq W hSW hf
                have v48 : aq.tmps[48]? = some (.int .i64 (1 : Int)) := hf.val 5 48 (by kernel_rfl) rfl
                clear hf
                refine wpOp_flow rfl (by rfl) (fun Kq hK => ?_)
                go_simp
                exact hK _ _ ⟨rfl, hSW⟩
              | kq + 7, hk => exact absurd hk (by first | omega | (intro h; simp at h; omega))
            · simp only [puts, Act.put, List.setIfInBounds_toArray, List.set_cons_zero, List.set_cons_succ]
              have h9 := H9.out.below hSW
              clear hSW
              go_wp2
              have h9d : PutS w p v g (nodeC q hs vv vl vr).toArray false W.drew := h9.below (Below.refl _ _).drew
              clear h9
              refine wp_region_flowU (fun iqv => ([(.int .i64 (1 : Int) : Value), (.pointer (some ⟨b, 0, none⟩) : Value), (.int .i64 (1 : Int) : Value), (.pointer (some ⟨b, 0, none⟩) : Value), (.pointer (some ⟨b, 14, none⟩) : Value), (.pointer (some ⟨b, 15, none⟩) : Value), (vr : Value), (.agg #[.int .u32 (p.a : Int), .int .i64 p.l] : Value), (.agg v.cells.toArray : Value), (undef : Value), (.pointer (some ⟨g, 14, none⟩) : Value), (.pointer (some ⟨g, 15, none⟩) : Value), (undef : Value)] : List Value).getD iqv undef) 9 12 (fun bb W => PutS w p v g (nodeC q hs vv vl vr).toArray bb W) (fun u bb W => PutK wA p v g r.ab r.blocks (fun u => (nodeC q hs vv vl u).toArray) u bb W) (fun u => [(some 49, .int .i64 (1 : Int)), (some 50, .pointer (some ⟨b, 0, none⟩)), (some 51, .int .i64 (1 : Int)), (some 52, .pointer (some ⟨b, 0, none⟩)), (some 53, .pointer (some ⟨b, 14, none⟩)), (some 54, .pointer (some ⟨b, 15, none⟩)), (some 55, vr), (some 56, .agg #[.int .u32 (p.a : Int), .int .i64 p.l]), (some 57, .agg v.cells.toArray), (some 58, u), (some 59, .pointer (some ⟨g, 14, none⟩)), (some 60, .pointer (some ⟨g, 15, none⟩)), (none, undef)]) (by kernel_rfl) (by kernel_rfl) (of_decide_eq_true (by kernel_rfl)) (of_decide_eq_true (by kernel_rfl)) (by kernel_rfl) (by kernel_rfl) (by kernel_rfl) h9d (fun iq hiq hik his => ?_) ?_ ?_ (fun u => by kernel_rfl) (fun u W hSW hE => ?_)
              · match iq, hiq with
                | 0, _ =>
                  intro bq aq W hSW hf
                  have v9 : aq.tmps[9]? = some (.int .i64 (1 : Int)) := (hf.at_base 9 (by kernel_rfl)).trans rfl
                  clear hf
                  refine wpOp_flow rfl (by rfl) (fun Kq hK => ?_)
                  go_simp
                  exact hK _ _ ⟨rfl, hSW, fun _ h => h⟩
                | 1, _ =>
                  intro bq aq W hSW hf
                  have v0 : aq.tmps[0]? = some (.pointer (some ⟨b, 0, none⟩)) := (hf.at_base 0 (by kernel_rfl)).trans rfl
                  clear hf
                  refine wpOp_flow rfl (by rfl) (fun Kq hK => ?_)
                  go_simp
                  exact hK _ _ ⟨rfl, hSW, fun _ h => h⟩
                | 2, _ =>
                  intro bq aq W hSW hf
                  have v9 : aq.tmps[9]? = some (.int .i64 (1 : Int)) := (hf.at_base 9 (by kernel_rfl)).trans rfl
                  clear hf
                  refine wpOp_flow rfl (by rfl) (fun Kq hK => ?_)
                  go_simp
                  exact hK _ _ ⟨rfl, hSW, fun _ h => h⟩
                | 3, _ =>
                  intro bq aq W hSW hf
                  have v50 : aq.tmps[50]? = some (.pointer (some ⟨b, 0, none⟩)) := hf.val 1 50 (by kernel_rfl) rfl
                  clear hf
                  refine wpOp_flow rfl (by rfl) (fun Kq hK => ?_)
                  go_simp
                  exact hK _ _ ⟨rfl, hSW, fun _ h => h⟩
                | 4, _ =>
                  intro bq aq W hSW hf
                  have v52 : aq.tmps[52]? = some (.pointer (some ⟨b, 0, none⟩)) := hf.val 3 52 (by kernel_rfl) rfl
                  clear hf
                  refine wpOp_flow rfl (by rfl) (fun Kq hK => ?_)
                  go_simp
                  exact hK _ _ ⟨rfl, hSW, fun _ h => h⟩
                | 5, _ =>
                  intro bq aq W hSW hf
                  have v51 : aq.tmps[51]? = some (.int .i64 (1 : Int)) := hf.val 2 51 (by kernel_rfl) rfl
                  have v53 : aq.tmps[53]? = some (.pointer (some ⟨b, 14, none⟩)) := hf.val 4 53 (by kernel_rfl) rfl
                  clear hf
                  refine wpOp_flow rfl (by rfl) (fun Kq hK => ?_)
                  go_simp
                  exact hK _ _ ⟨rfl, hSW, fun _ h => h⟩
                | 6, _ =>
                  intro bq aq W hSW hf
                  have v54 : aq.tmps[54]? = some (.pointer (some ⟨b, 15, none⟩)) := hf.val 5 54 (by kernel_rfl) rfl
                  clear hf
                  refine wpOp_flow rfl (by rfl) (fun Kq hK => ?_)
                  obtain ⟨-, -, c2, c3⟩ := HW.out W hSW.bel
                  go_simp
                  exact hK _ _ ⟨rfl, hSW, fun _ h => h⟩
                | 7, _ =>
                  intro bq aq W hSW hf
                  have v4 : aq.tmps[4]? = some (.pointer (some ⟨w.heap.size, 0, none⟩)) := (hf.at_base 4 (by kernel_rfl)).trans rfl
                  clear hf
                  refine wpOp_flow rfl (by rfl) (fun Kq hK => ?_)
                  have hx := hSW
                  have d0 := cellOf hx.box 0 (v := .int .u32 (p.a : Int)) rfl
                  have d1 := cellOf hx.box 1 (v := .int .i64 p.l) rfl
                  clear hx
                  go_simp
                  exact hK _ _ ⟨rfl, hSW, fun _ h => h⟩
                | 8, _ =>
                  intro bq aq W hSW hf
                  have v5 : aq.tmps[5]? = some (.pointer (some ⟨w.heap.size + 1, 0, none⟩)) := (hf.at_base 5 (by kernel_rfl)).trans rfl
                  clear hf
                  refine wpOp_flow rfl (by rfl) (fun Kq hK => ?_)
                  refine wp_load_row 37 (.tmp 5) rfl (w.heap.size + 1) (eval_of v5) 37 v.cells.toArray (0, 0) _ hSW.att Try.underlying37 rfl hiv.out (hK _ _ ⟨rfl, hSW, fun _ h => h⟩)
                | 9, _ =>
                  exact absurd rfl hik
                | 10, _ =>
                  intro bq aq W hSW hf
                  have v8 : aq.tmps[8]? = some (.pointer (some ⟨g, 0, none⟩)) := (hf.at_base 8 (by kernel_rfl)).trans rfl
                  clear hf
                  refine wpOp_flow rfl (by rfl) (fun Kq hK => ?_)
                  go_simp
                  exact hK _ _ ⟨rfl, hSW, fun _ h => h⟩
                | 11, _ =>
                  intro bq aq W hSW hf
                  have v49 : aq.tmps[49]? = some (.int .i64 (1 : Int)) := hf.val 0 49 (by kernel_rfl) rfl
                  have v59 : aq.tmps[59]? = some (.pointer (some ⟨g, 14, none⟩)) := hf.val 10 59 (by kernel_rfl) rfl
                  clear hf
                  refine wpOp_flow rfl (by rfl) (fun Kq hK => ?_)
                  go_simp
                  exact hK _ _ ⟨rfl, hSW, fun _ h => h⟩
                | 12, _ =>
                  exact absurd rfl his
                | kq + 13, hk => exact absurd hk (by first | omega | (intro h; simp at h; omega))
              · intro aq W hSW hf
                have v55 : aq.tmps[55]? = some (vr) := hf.val 6 55 (by kernel_rfl) rfl
                have v56 : aq.tmps[56]? = some (.agg #[.int .u32 (p.a : Int), .int .i64 p.l]) := hf.val 7 56 (by kernel_rfl) rfl
                have v57 : aq.tmps[57]? = some (.agg v.cells.toArray) := hf.val 8 57 (by kernel_rfl) rfl
                clear hf
                refine wpOp_flow rfl (by rfl) (fun Kq hK => ?_)
                have hsz2 := ltOf (hSW.cell rfl)
                go_simp
                refine (IHR.out W (HLR.out.2.below hSW.bel)).mono ?_
                rintro e w19 ⟨⟨t', rfl, h1, h2, h3⟩, B19⟩
                exact hK _ _ ⟨t'.ptr, rfl, hSW.below B19, t', rfl, h1, h2, fun k hk => by rcases h3 k hk with h | h; exact .inl h; exact .inr (by omega), fun h => by cases h⟩
              · intro u aq W hSW hE hf
                have v58 : aq.tmps[58]? = some (u) := hf.val 9 58 (by kernel_rfl) rfl
                have v60 : aq.tmps[60]? = some (.pointer (some ⟨g, 15, none⟩)) := hf.val 11 60 (by kernel_rfl) rfl
                clear hf
                refine wpOp_flow rfl (by rfl) (fun Kq hK => ?_)
                obtain ⟨t', rfl, h1, h2, h3, -⟩ := hE
                have hc := hSW.cell rfl
                have hc1 := heap_setCell_same hc 15 t'.ptr
                rw [node_right] at hc1
                have ck := cellOf hc 15 (v := vr) rfl
                have fk := frozenOf hc 15
                have hgw := HG.out
                have hat : t'.at wA (W.setCell ⟨g, 15, none⟩ t'.ptr) := h1.of_heap fun k hk => by
                  refine Below.heap_setCell _ _ _ _ (show k ≠ g from ?_)
                  rcases h3 k hk with h | h
                  · have := HHR.out k h
                    omega
                  · omega
                have hS7 := hSW.set 15 (by omega) t'.ptr
                have hE7 : PutK wA p v g r.ab r.blocks (fun u => (nodeC q hs vv vl u).toArray) t'.ptr true (W.setCell ⟨g, 15, none⟩ t'.ptr) := ⟨t', rfl, hat, h2, h3, fun _ => hc1⟩
                obtain ⟨o, ho⟩ : ∃ o, t'.ptr = .pointer o := by cases t' <;> exact ⟨_, rfl⟩
                rw [ho] at v58 hS7 hE7
                clear hSW hc hc1 hat h1 h2 h3
                go_simp
                exact hK _ _ ⟨rfl, hS7, by rw [ho]; exact hE7⟩
              · simp only [puts, Act.put, List.setIfInBounds_toArray, List.set_cons_zero, List.set_cons_succ]
                obtain ⟨t', hu, h1, h2, h3, h4⟩ := hE
                have hc := h4 rfl
                rw [hu] at hc
                rw [HVP.out.1] at hc
                have HRES : Hid (PutR wA p v (Tr.node b q hs vv l r) w (.returned (.pointer (some ⟨g, 0, none⟩))) W) := by
                  refine ⟨⟨.node g q hs vv l t', rfl, ⟨hc, HV.out.2.2.1, HV.out.2.2.2, HLR.out.1.below hSW.bel, h1⟩, by rw [HPA.out, ← h2]; rfl, fun k hk => ?_⟩, hSW.bel⟩
                  have hgw := HG.out
                  simp only [Tr.blocks, List.mem_cons, List.mem_append] at hk ⊢
                  rcases hk with rfl | hk | hk
                  · exact .inr (by omega)
                  · exact .inl (.inr (.inl hk))
                  · rcases h3 k hk with h | h
                    · exact .inl (.inr (.inr h))
                    · exact .inr (by omega)
                clear hSW hu h1 h2 h3 h4 hc
                go_wp2
                go_ret
                exact HRES.out
        | false =>
          have H12 := hidp h8
          obtain ⟨dv, hdv⟩ : ∃ dv, coversF p q = dv := ⟨_, rfl⟩
          have HDV := hidp hdv
          clear hdv h8
          obtain ⟨w4, rfl⟩ : ∃ w4, w4 = W := ⟨_, rfl⟩
          go_wp2
          have hd4 : Below w4.heap.size w4 w4.drew := (Below.refl _ _).drew
          refine wp_region_flow2 (fun iqv => ([(.agg #[.int .u32 (p.a : Int), .int .i64 p.l] : Value), (.pointer (some ⟨b, 0, none⟩) : Value), (.pointer (some ⟨b, 0, none⟩) : Value), (.pointer (some ⟨b, 0, none⟩) : Value), (.agg #[.int .u32 (q.a : Int), .int .i64 q.l] : Value), (.bool dv : Value), (.bool dv : Value)] : List Value).getD iqv undef) [(some 62, .agg #[.int .u32 (p.a : Int), .int .i64 p.l]), (some 63, .pointer (some ⟨b, 0, none⟩)), (some 64, .pointer (some ⟨b, 0, none⟩)), (some 65, .pointer (some ⟨b, 0, none⟩)), (some 66, .agg #[.int .u32 (q.a : Int), .int .i64 q.l]), (some 67, .bool dv), (some 61, .bool dv)] (fun W : World => Below w4.heap.size w4 W) (by kernel_rfl) (by kernel_rfl) hd4 (fun iq hiq => ?_) (by kernel_rfl) (fun W hSW => ?_)
          · match iq, hiq with
            | 0, _ =>
              intro aq W hSW hf
              have v4 : aq.tmps[4]? = some (.pointer (some ⟨w.heap.size, 0, none⟩)) := (hf.at_base 4 (by kernel_rfl)).trans rfl
              clear hf
              refine wpOp_flow rfl (by rfl) (fun Kq hK => ?_)
              have hx := H12.out.below hSW
              have d0 := cellOf hx.box 0 (v := .int .u32 (p.a : Int)) rfl
              have d1 := cellOf hx.box 1 (v := .int .i64 p.l) rfl
              clear hx
              go_simp
              exact hK _ _ ⟨rfl, hSW⟩
            | 1, _ =>
              intro aq W hSW hf
              have v0 : aq.tmps[0]? = some (.pointer (some ⟨b, 0, none⟩)) := (hf.at_base 0 (by kernel_rfl)).trans rfl
              clear hf
              refine wpOp_flow rfl (by rfl) (fun Kq hK => ?_)
              go_simp
              exact hK _ _ ⟨rfl, hSW⟩
            | 2, _ =>
              intro aq W hSW hf
              have v63 : aq.tmps[63]? = some (.pointer (some ⟨b, 0, none⟩)) := hf.val 1 63 (by kernel_rfl) rfl
              clear hf
              refine wpOp_flow rfl (by rfl) (fun Kq hK => ?_)
              go_simp
              exact hK _ _ ⟨rfl, hSW⟩
            | 3, _ =>
              intro aq W hSW hf
              have v64 : aq.tmps[64]? = some (.pointer (some ⟨b, 0, none⟩)) := hf.val 2 64 (by kernel_rfl) rfl
              clear hf
              refine wpOp_flow rfl (by rfl) (fun Kq hK => ?_)
              go_simp
              exact hK _ _ ⟨rfl, hSW⟩
            | 4, _ =>
              intro aq W hSW hf
              have v65 : aq.tmps[65]? = some (.pointer (some ⟨b, 0, none⟩)) := hf.val 3 65 (by kernel_rfl) rfl
              clear hf
              refine wpOp_flow rfl (by rfl) (fun Kq hK => ?_)
              obtain ⟨c0, c1, -, -⟩ := HW.out W (H12.out.bel.trans (hSW.mono H12.out.bel.size))
              go_simp
              exact hK _ _ ⟨rfl, hSW⟩
            | 5, _ =>
              intro aq W hSW hf
              have v62 : aq.tmps[62]? = some (.agg #[.int .u32 (p.a : Int), .int .i64 p.l]) := hf.val 0 62 (by kernel_rfl) rfl
              have v66 : aq.tmps[66]? = some (.agg #[.int .u32 (q.a : Int), .int .i64 q.l]) := hf.val 4 66 (by kernel_rfl) rfl
              clear hf
              refine wpOp_flow rfl (by rfl) (fun Kq hK => ?_)
              go_simp
              refine (covers_any p q HV.out.1 HV.out.2.2.1 _).mono ?_
              rw [HDV.out]
              rintro e w19 ⟨rfl, B19⟩
              exact hK _ _ ⟨rfl, hSW.trans (B19.mono hSW.size)⟩
            | 6, _ =>
              intro aq W hSW hf
              have v67 : aq.tmps[67]? = some (.bool dv) := hf.val 5 67 (by kernel_rfl) rfl
              clear hf
              refine wpOp_flow rfl (by rfl) (fun Kq hK => ?_)
              go_simp
              exact hK _ _ ⟨rfl, hSW⟩
            | kq + 7, hk => exact absurd hk (by first | omega | (intro h; simp at h; omega))
          · simp only [puts, Act.put, List.setIfInBounds_toArray, List.set_cons_zero, List.set_cons_succ]
            have h13 := H12.out.below hSW
            clear hSW
            cases dv with
            | true =>
              go_wp2
              have h13d := h13.below (Below.refl W.heap.size W).drew
              clear h13
              rcases side_lt p q with hs' | hs'
              · have HSD := hidp hs'
                have HPA := hidp (show putA (Tr.node b q hs vv l r).ab p v = .node p true v (.node q hs vv l.ab r.ab) .nil by show putA (.node q hs vv l.ab r.ab) p v = _; rw [putA, if_neg HSM.out, if_neg (by rw [HCV.out]; simp), if_pos HDV.out, if_pos hs'])
                clear hs'
                refine wp_region_flowU (fun iqv => ([(.pointer (some ⟨w.heap.size + 1 + 1, 0, none⟩) : Value), (.agg #[.int .u32 (p.a : Int), .int .i64 p.l] : Value), (.pointer (some ⟨b, 0, none⟩) : Value), (.pointer (some ⟨b, 0, none⟩) : Value), (.pointer (some ⟨b, 0, none⟩) : Value), (.agg #[.int .u32 (q.a : Int), .int .i64 q.l] : Value), (.int .i64 (0 : Int) : Value), (undef : Value), (.pointer (some ⟨w.heap.size + 1 + 1, 0, none⟩) : Value), (.pointer (some ⟨w.heap.size + 1 + 1, 14, none⟩) : Value), (.pointer (some ⟨w.heap.size + 1 + 1, 14, none⟩) : Value), (undef : Value)] : List Value).getD iqv undef) 7 11 (fun bb W => PutS w p v (w.heap.size + 1 + 1) (nodeC p true v nilp nilp).toArray bb W) (fun u bb W => PutE (w.heap.size + 1 + 1) (.pointer (some ⟨b, 0, none⟩)) (nodeC p true v (.pointer (some ⟨b, 0, none⟩)) nilp).toArray u bb W) (fun u => [(some 68, .pointer (some ⟨w.heap.size + 1 + 1, 0, none⟩)), (some 69, .agg #[.int .u32 (p.a : Int), .int .i64 p.l]), (some 70, .pointer (some ⟨b, 0, none⟩)), (some 71, .pointer (some ⟨b, 0, none⟩)), (some 72, .pointer (some ⟨b, 0, none⟩)), (some 73, .agg #[.int .u32 (q.a : Int), .int .i64 q.l]), (some 74, .int .i64 (0 : Int)), (some 75, u), (some 76, .pointer (some ⟨w.heap.size + 1 + 1, 0, none⟩)), (some 77, .pointer (some ⟨w.heap.size + 1 + 1, 14, none⟩)), (some 78, .pointer (some ⟨w.heap.size + 1 + 1, 14, none⟩)), (none, undef)]) (by kernel_rfl) (by kernel_rfl) (of_decide_eq_true (by kernel_rfl)) (of_decide_eq_true (by kernel_rfl)) (by kernel_rfl) (by kernel_rfl) (by kernel_rfl) h13d (fun iq hiq hik his => ?_) ?_ ?_ (fun u => by kernel_rfl) (fun u W hSW hE => ?_)
                · match iq, hiq with
                  | 0, _ =>
                    intro bq aq W hSW hf
                    have v7 : aq.tmps[7]? = some (.pointer (some ⟨w.heap.size + 1 + 1, 0, none⟩)) := (hf.at_base 7 (by kernel_rfl)).trans rfl
                    clear hf
                    refine wpOp_flow rfl (by rfl) (fun Kq hK => ?_)
                    go_simp
                    exact hK _ _ ⟨rfl, hSW, fun _ h => h⟩
                  | 1, _ =>
                    intro bq aq W hSW hf
                    have v4 : aq.tmps[4]? = some (.pointer (some ⟨w.heap.size, 0, none⟩)) := (hf.at_base 4 (by kernel_rfl)).trans rfl
                    clear hf
                    refine wpOp_flow rfl (by rfl) (fun Kq hK => ?_)
                    have hx := hSW
                    have d0 := cellOf hx.box 0 (v := .int .u32 (p.a : Int)) rfl
                    have d1 := cellOf hx.box 1 (v := .int .i64 p.l) rfl
                    clear hx
                    go_simp
                    exact hK _ _ ⟨rfl, hSW, fun _ h => h⟩
                  | 2, _ =>
                    intro bq aq W hSW hf
                    have v0 : aq.tmps[0]? = some (.pointer (some ⟨b, 0, none⟩)) := (hf.at_base 0 (by kernel_rfl)).trans rfl
                    clear hf
                    refine wpOp_flow rfl (by rfl) (fun Kq hK => ?_)
                    go_simp
                    exact hK _ _ ⟨rfl, hSW, fun _ h => h⟩
                  | 3, _ =>
                    intro bq aq W hSW hf
                    have v70 : aq.tmps[70]? = some (.pointer (some ⟨b, 0, none⟩)) := hf.val 2 70 (by kernel_rfl) rfl
                    clear hf
                    refine wpOp_flow rfl (by rfl) (fun Kq hK => ?_)
                    go_simp
                    exact hK _ _ ⟨rfl, hSW, fun _ h => h⟩
                  | 4, _ =>
                    intro bq aq W hSW hf
                    have v71 : aq.tmps[71]? = some (.pointer (some ⟨b, 0, none⟩)) := hf.val 3 71 (by kernel_rfl) rfl
                    clear hf
                    refine wpOp_flow rfl (by rfl) (fun Kq hK => ?_)
                    go_simp
                    exact hK _ _ ⟨rfl, hSW, fun _ h => h⟩
                  | 5, _ =>
                    intro bq aq W hSW hf
                    have v72 : aq.tmps[72]? = some (.pointer (some ⟨b, 0, none⟩)) := hf.val 4 72 (by kernel_rfl) rfl
                    clear hf
                    refine wpOp_flow rfl (by rfl) (fun Kq hK => ?_)
                    obtain ⟨c0, c1, -, -⟩ := HW.out W (hSW.bel)
                    go_simp
                    exact hK _ _ ⟨rfl, hSW, fun _ h => h⟩
                  | 6, _ =>
                    intro bq aq W hSW hf
                    have v69 : aq.tmps[69]? = some (.agg #[.int .u32 (p.a : Int), .int .i64 p.l]) := hf.val 1 69 (by kernel_rfl) rfl
                    have v73 : aq.tmps[73]? = some (.agg #[.int .u32 (q.a : Int), .int .i64 q.l]) := hf.val 5 73 (by kernel_rfl) rfl
                    clear hf
                    refine wpOp_flow rfl (by rfl) (fun Kq hK => ?_)
                    go_simp
                    refine (side_any p q HV.out.2.2.1 _).mono ?_
                    rw [HSD.out]
                    rintro e w19 ⟨rfl, B19⟩
                    exact hK _ _ ⟨rfl, hSW.below B19, fun u hu => ⟨hu.1, fun hb => heap_below B19 (hu.2 hb) (ltOf (hu.2 hb))⟩⟩
                  | 7, _ =>
                    exact absurd rfl hik
                  | 8, _ =>
                    intro bq aq W hSW hf
                    have v68 : aq.tmps[68]? = some (.pointer (some ⟨w.heap.size + 1 + 1, 0, none⟩)) := hf.val 0 68 (by kernel_rfl) rfl
                    clear hf
                    refine wpOp_flow rfl (by rfl) (fun Kq hK => ?_)
                    go_simp
                    exact hK _ _ ⟨rfl, hSW, fun _ h => h⟩
                  | 9, _ =>
                    intro bq aq W hSW hf
                    have v76 : aq.tmps[76]? = some (.pointer (some ⟨w.heap.size + 1 + 1, 0, none⟩)) := hf.val 8 76 (by kernel_rfl) rfl
                    clear hf
                    refine wpOp_flow rfl (by rfl) (fun Kq hK => ?_)
                    go_simp
                    exact hK _ _ ⟨rfl, hSW, fun _ h => h⟩
                  | 10, _ =>
                    intro bq aq W hSW hf
                    have v74 : aq.tmps[74]? = some (.int .i64 (0 : Int)) := hf.val 6 74 (by kernel_rfl) rfl
                    have v77 : aq.tmps[77]? = some (.pointer (some ⟨w.heap.size + 1 + 1, 14, none⟩)) := hf.val 9 77 (by kernel_rfl) rfl
                    clear hf
                    refine wpOp_flow rfl (by rfl) (fun Kq hK => ?_)
                    go_simp
                    exact hK _ _ ⟨rfl, hSW, fun _ h => h⟩
                  | 11, _ =>
                    exact absurd rfl his
                  | kq + 12, hk => exact absurd hk (by first | omega | (intro h; simp at h; omega))
                · intro aq W hSW hf
                  have v0 : aq.tmps[0]? = some (.pointer (some ⟨b, 0, none⟩)) := (hf.at_base 0 (by kernel_rfl)).trans rfl
                  clear hf
                  refine wpOp_flow rfl (by rfl) (fun Kq hK => ?_)
                  go_simp
                  exact hK _ _ ⟨_, rfl, hSW, rfl, fun h => by cases h⟩
                · intro u aq W hSW hE hf
                  have v75 : aq.tmps[75]? = some (u) := hf.val 7 75 (by kernel_rfl) rfl
                  have v78 : aq.tmps[78]? = some (.pointer (some ⟨w.heap.size + 1 + 1, 14, none⟩)) := hf.val 10 78 (by kernel_rfl) rfl
                  clear hf
                  refine wpOp_flow rfl (by rfl) (fun Kq hK => ?_)
                  obtain ⟨rfl, -⟩ := hE
                  have hc := hSW.cell rfl
                  have hc1 := heap_setCell_same hc 14 (.pointer (some ⟨b, 0, none⟩))
                  rw [node_left] at hc1
                  have ck := cellOf hc 14 rfl
                  have fk := frozenOf hc 14
                  have hS7 := hSW.set 14 (by omega) (.pointer (some ⟨b, 0, none⟩))
                  have hE7 : PutE (w.heap.size + 1 + 1) (.pointer (some ⟨b, 0, none⟩)) (nodeC p true v (.pointer (some ⟨b, 0, none⟩)) nilp).toArray (.pointer (some ⟨b, 0, none⟩)) true (W.setCell ⟨w.heap.size + 1 + 1, 14, none⟩ (.pointer (some ⟨b, 0, none⟩))) := ⟨rfl, fun _ => hc1⟩
                  clear hSW hc hc1
                  go_simp
                  exact hK _ _ ⟨rfl, hS7, hE7⟩
                · simp only [puts, Act.put, List.setIfInBounds_toArray, List.set_cons_zero, List.set_cons_succ]
                  obtain ⟨rfl, h4⟩ := hE
                  have hc := h4 rfl
                  have HRES : Hid (PutR wA p v (Tr.node b q hs vv l r) w (.returned (.pointer (some ⟨w.heap.size + 1 + 1, 0, none⟩))) W) := by
                    refine ⟨⟨.node (w.heap.size + 1 + 1) p true v (.node b q hs vv l r) .nil, rfl, ⟨hc, HV.out.1, HV.out.2.1, HX.out.below hSW.bel, trivial⟩, by rw [HPA.out]; rfl, fun k hk => ?_⟩, hSW.bel⟩
                    rcases List.mem_cons.1 hk with rfl | hk
                    · exact .inr (by omega)
                    · exact .inl (by simpa [Tr.blocks] using hk)
                  clear hSW h4 hc
                  go_wp2
                  go_ret
                  exact HRES.out
              · have HSD := hidp hs'
                have HPA := hidp (show putA (Tr.node b q hs vv l r).ab p v = .node p true v .nil (.node q hs vv l.ab r.ab) by show putA (.node q hs vv l.ab r.ab) p v = _; rw [putA, if_neg HSM.out, if_neg (by rw [HCV.out]; simp), if_pos HDV.out, if_neg (by omega)])
                clear hs'
                refine wp_region_flowU (fun iqv => ([(.pointer (some ⟨w.heap.size + 1 + 1, 0, none⟩) : Value), (.agg #[.int .u32 (p.a : Int), .int .i64 p.l] : Value), (.pointer (some ⟨b, 0, none⟩) : Value), (.pointer (some ⟨b, 0, none⟩) : Value), (.pointer (some ⟨b, 0, none⟩) : Value), (.agg #[.int .u32 (q.a : Int), .int .i64 q.l] : Value), (.int .i64 (1 : Int) : Value), (undef : Value), (.pointer (some ⟨w.heap.size + 1 + 1, 0, none⟩) : Value), (.pointer (some ⟨w.heap.size + 1 + 1, 14, none⟩) : Value), (.pointer (some ⟨w.heap.size + 1 + 1, 15, none⟩) : Value), (undef : Value)] : List Value).getD iqv undef) 7 11 (fun bb W => PutS w p v (w.heap.size + 1 + 1) (nodeC p true v nilp nilp).toArray bb W) (fun u bb W => PutE (w.heap.size + 1 + 1) (.pointer (some ⟨b, 0, none⟩)) (nodeC p true v nilp (.pointer (some ⟨b, 0, none⟩))).toArray u bb W) (fun u => [(some 68, .pointer (some ⟨w.heap.size + 1 + 1, 0, none⟩)), (some 69, .agg #[.int .u32 (p.a : Int), .int .i64 p.l]), (some 70, .pointer (some ⟨b, 0, none⟩)), (some 71, .pointer (some ⟨b, 0, none⟩)), (some 72, .pointer (some ⟨b, 0, none⟩)), (some 73, .agg #[.int .u32 (q.a : Int), .int .i64 q.l]), (some 74, .int .i64 (1 : Int)), (some 75, u), (some 76, .pointer (some ⟨w.heap.size + 1 + 1, 0, none⟩)), (some 77, .pointer (some ⟨w.heap.size + 1 + 1, 14, none⟩)), (some 78, .pointer (some ⟨w.heap.size + 1 + 1, 15, none⟩)), (none, undef)]) (by kernel_rfl) (by kernel_rfl) (of_decide_eq_true (by kernel_rfl)) (of_decide_eq_true (by kernel_rfl)) (by kernel_rfl) (by kernel_rfl) (by kernel_rfl) h13d (fun iq hiq hik his => ?_) ?_ ?_ (fun u => by kernel_rfl) (fun u W hSW hE => ?_)
                · match iq, hiq with
                  | 0, _ =>
                    intro bq aq W hSW hf
                    have v7 : aq.tmps[7]? = some (.pointer (some ⟨w.heap.size + 1 + 1, 0, none⟩)) := (hf.at_base 7 (by kernel_rfl)).trans rfl
                    clear hf
                    refine wpOp_flow rfl (by rfl) (fun Kq hK => ?_)
                    go_simp
                    exact hK _ _ ⟨rfl, hSW, fun _ h => h⟩
                  | 1, _ =>
                    intro bq aq W hSW hf
                    have v4 : aq.tmps[4]? = some (.pointer (some ⟨w.heap.size, 0, none⟩)) := (hf.at_base 4 (by kernel_rfl)).trans rfl
                    clear hf
                    refine wpOp_flow rfl (by rfl) (fun Kq hK => ?_)
                    have hx := hSW
                    have d0 := cellOf hx.box 0 (v := .int .u32 (p.a : Int)) rfl
                    have d1 := cellOf hx.box 1 (v := .int .i64 p.l) rfl
                    clear hx
                    go_simp
                    exact hK _ _ ⟨rfl, hSW, fun _ h => h⟩
                  | 2, _ =>
                    intro bq aq W hSW hf
                    have v0 : aq.tmps[0]? = some (.pointer (some ⟨b, 0, none⟩)) := (hf.at_base 0 (by kernel_rfl)).trans rfl
                    clear hf
                    refine wpOp_flow rfl (by rfl) (fun Kq hK => ?_)
                    go_simp
                    exact hK _ _ ⟨rfl, hSW, fun _ h => h⟩
                  | 3, _ =>
                    intro bq aq W hSW hf
                    have v70 : aq.tmps[70]? = some (.pointer (some ⟨b, 0, none⟩)) := hf.val 2 70 (by kernel_rfl) rfl
                    clear hf
                    refine wpOp_flow rfl (by rfl) (fun Kq hK => ?_)
                    go_simp
                    exact hK _ _ ⟨rfl, hSW, fun _ h => h⟩
                  | 4, _ =>
                    intro bq aq W hSW hf
                    have v71 : aq.tmps[71]? = some (.pointer (some ⟨b, 0, none⟩)) := hf.val 3 71 (by kernel_rfl) rfl
                    clear hf
                    refine wpOp_flow rfl (by rfl) (fun Kq hK => ?_)
                    go_simp
                    exact hK _ _ ⟨rfl, hSW, fun _ h => h⟩
                  | 5, _ =>
                    intro bq aq W hSW hf
                    have v72 : aq.tmps[72]? = some (.pointer (some ⟨b, 0, none⟩)) := hf.val 4 72 (by kernel_rfl) rfl
                    clear hf
                    refine wpOp_flow rfl (by rfl) (fun Kq hK => ?_)
                    obtain ⟨c0, c1, -, -⟩ := HW.out W (hSW.bel)
                    go_simp
                    exact hK _ _ ⟨rfl, hSW, fun _ h => h⟩
                  | 6, _ =>
                    intro bq aq W hSW hf
                    have v69 : aq.tmps[69]? = some (.agg #[.int .u32 (p.a : Int), .int .i64 p.l]) := hf.val 1 69 (by kernel_rfl) rfl
                    have v73 : aq.tmps[73]? = some (.agg #[.int .u32 (q.a : Int), .int .i64 q.l]) := hf.val 5 73 (by kernel_rfl) rfl
                    clear hf
                    refine wpOp_flow rfl (by rfl) (fun Kq hK => ?_)
                    go_simp
                    refine (side_any p q HV.out.2.2.1 _).mono ?_
                    rw [HSD.out]
                    rintro e w19 ⟨rfl, B19⟩
                    exact hK _ _ ⟨rfl, hSW.below B19, fun u hu => ⟨hu.1, fun hb => heap_below B19 (hu.2 hb) (ltOf (hu.2 hb))⟩⟩
                  | 7, _ =>
                    exact absurd rfl hik
                  | 8, _ =>
                    intro bq aq W hSW hf
                    have v68 : aq.tmps[68]? = some (.pointer (some ⟨w.heap.size + 1 + 1, 0, none⟩)) := hf.val 0 68 (by kernel_rfl) rfl
                    clear hf
                    refine wpOp_flow rfl (by rfl) (fun Kq hK => ?_)
                    go_simp
                    exact hK _ _ ⟨rfl, hSW, fun _ h => h⟩
                  | 9, _ =>
                    intro bq aq W hSW hf
                    have v76 : aq.tmps[76]? = some (.pointer (some ⟨w.heap.size + 1 + 1, 0, none⟩)) := hf.val 8 76 (by kernel_rfl) rfl
                    clear hf
                    refine wpOp_flow rfl (by rfl) (fun Kq hK => ?_)
                    go_simp
                    exact hK _ _ ⟨rfl, hSW, fun _ h => h⟩
                  | 10, _ =>
                    intro bq aq W hSW hf
                    have v74 : aq.tmps[74]? = some (.int .i64 (1 : Int)) := hf.val 6 74 (by kernel_rfl) rfl
                    have v77 : aq.tmps[77]? = some (.pointer (some ⟨w.heap.size + 1 + 1, 14, none⟩)) := hf.val 9 77 (by kernel_rfl) rfl
                    clear hf
                    refine wpOp_flow rfl (by rfl) (fun Kq hK => ?_)
                    go_simp
                    exact hK _ _ ⟨rfl, hSW, fun _ h => h⟩
                  | 11, _ =>
                    exact absurd rfl his
                  | kq + 12, hk => exact absurd hk (by first | omega | (intro h; simp at h; omega))
                · intro aq W hSW hf
                  have v0 : aq.tmps[0]? = some (.pointer (some ⟨b, 0, none⟩)) := (hf.at_base 0 (by kernel_rfl)).trans rfl
                  clear hf
                  refine wpOp_flow rfl (by rfl) (fun Kq hK => ?_)
                  go_simp
                  exact hK _ _ ⟨_, rfl, hSW, rfl, fun h => by cases h⟩
                · intro u aq W hSW hE hf
                  have v75 : aq.tmps[75]? = some (u) := hf.val 7 75 (by kernel_rfl) rfl
                  have v78 : aq.tmps[78]? = some (.pointer (some ⟨w.heap.size + 1 + 1, 15, none⟩)) := hf.val 10 78 (by kernel_rfl) rfl
                  clear hf
                  refine wpOp_flow rfl (by rfl) (fun Kq hK => ?_)
                  obtain ⟨rfl, -⟩ := hE
                  have hc := hSW.cell rfl
                  have hc1 := heap_setCell_same hc 15 (.pointer (some ⟨b, 0, none⟩))
                  rw [node_right] at hc1
                  have ck := cellOf hc 15 rfl
                  have fk := frozenOf hc 15
                  have hS7 := hSW.set 15 (by omega) (.pointer (some ⟨b, 0, none⟩))
                  have hE7 : PutE (w.heap.size + 1 + 1) (.pointer (some ⟨b, 0, none⟩)) (nodeC p true v nilp (.pointer (some ⟨b, 0, none⟩))).toArray (.pointer (some ⟨b, 0, none⟩)) true (W.setCell ⟨w.heap.size + 1 + 1, 15, none⟩ (.pointer (some ⟨b, 0, none⟩))) := ⟨rfl, fun _ => hc1⟩
                  clear hSW hc hc1
                  go_simp
                  exact hK _ _ ⟨rfl, hS7, hE7⟩
                · simp only [puts, Act.put, List.setIfInBounds_toArray, List.set_cons_zero, List.set_cons_succ]
                  obtain ⟨rfl, h4⟩ := hE
                  have hc := h4 rfl
                  have HRES : Hid (PutR wA p v (Tr.node b q hs vv l r) w (.returned (.pointer (some ⟨w.heap.size + 1 + 1, 0, none⟩))) W) := by
                    refine ⟨⟨.node (w.heap.size + 1 + 1) p true v .nil (.node b q hs vv l r), rfl, ⟨hc, HV.out.1, HV.out.2.1, trivial, HX.out.below hSW.bel⟩, by rw [HPA.out]; rfl, fun k hk => ?_⟩, hSW.bel⟩
                    rcases List.mem_cons.1 hk with rfl | hk
                    · exact .inr (by omega)
                    · exact .inl (by simpa [Tr.blocks] using hk)
                  clear hSW h4 hc
                  go_wp2
                  go_ret
                  exact HRES.out
            | false =>
              have HPC := hidp (show putA (Tr.node b q hs vv l r).ab p v = .node (commonF p q) false att0 (if sideF (commonF p q) q = 0 then .node q hs vv l.ab r.ab else if sideF (commonF p q) p = 0 then .node p true v .nil .nil else .nil) (if sideF (commonF p q) q = 0 then (if sideF (commonF p q) p = 0 then .nil else .node p true v .nil .nil) else .node q hs vv l.ab r.ab) by show putA (.node q hs vv l.ab r.ab) p v = _; rw [putA, if_neg HSM.out, if_neg (by rw [HCV.out]; simp), if_neg (by rw [HDV.out]; simp)])
              have HCC := hidp (common_ok p q)
              obtain ⟨c, hc⟩ : ∃ c, commonF p q = c := ⟨_, rfl⟩
              rw [hc] at HPC HCC
              have HC := hidp (hc.trans rfl)
              clear hc
              go_wp2
              have h15d := h13.below (Below.refl W.heap.size W).drew
              clear h13
              refine wp_region_flowV (fun u iqv => ([(.agg #[.int .u32 (p.a : Int), .int .i64 p.l] : Value), (.pointer (some ⟨b, 0, none⟩) : Value), (.pointer (some ⟨b, 0, none⟩) : Value), (.pointer (some ⟨b, 0, none⟩) : Value), (.agg #[.int .u32 (q.a : Int), .int .i64 q.l] : Value), (.agg #[.int .u32 (c.a : Int), .int .i64 c.l] : Value), (.agg (nodeC c false att0 nilp nilp).toArray : Value), (u : Value), (u : Value)] : List Value).getD iqv undef) 7 (fun W => PutS w p v (w.heap.size + 1 + 1) (nodeC p true v nilp nilp).toArray false W) (fun u W => PutB w p v (nodeC c false att0 nilp nilp).toArray u W) (fun u => [(some 80, .agg #[.int .u32 (p.a : Int), .int .i64 p.l]), (some 81, .pointer (some ⟨b, 0, none⟩)), (some 82, .pointer (some ⟨b, 0, none⟩)), (some 83, .pointer (some ⟨b, 0, none⟩)), (some 84, .agg #[.int .u32 (q.a : Int), .int .i64 q.l]), (some 85, .agg #[.int .u32 (c.a : Int), .int .i64 c.l]), (some 86, .agg (nodeC c false att0 nilp nilp).toArray), (some 87, u), (some 10, u)]) (by kernel_rfl) (by kernel_rfl) (of_decide_eq_true (by kernel_rfl)) (by kernel_rfl) (fun u => rfl) (fun u i hi hw => by match i, hi, hw with | 0, _, hw => rfl | 1, _, hw => rfl | 2, _, hw => rfl | 3, _, hw => rfl | 4, _, hw => rfl | 5, _, hw => rfl | 6, _, hw => rfl | 7, _, hw => exact absurd (hw.symm.trans (by kernel_rfl : _ = true)) (by decide) | 8, _, hw => exact absurd (hw.symm.trans (by kernel_rfl : _ = true)) (by decide) | kq + 9, hk, _ => exact absurd hk (by first | omega | (intro h; simp at h; omega))) h15d (fun iq hiq hik hwk => ?_) ?_ (fun iq hiq hik hwk => ?_) (fun u => by kernel_rfl) (fun u W hSW hE => ?_)
              · match iq, hiq with
                | 0, _ =>
                  intro aq W hSW hf
                  have v4 : aq.tmps[4]? = some (.pointer (some ⟨w.heap.size, 0, none⟩)) := (hf.at_base 4 (by kernel_rfl)).trans rfl
                  clear hf
                  refine wpOp_flow rfl (by rfl) (fun Kq hK => ?_)
                  have hx := hSW
                  have d0 := cellOf hx.box 0 (v := .int .u32 (p.a : Int)) rfl
                  have d1 := cellOf hx.box 1 (v := .int .i64 p.l) rfl
                  clear hx
                  go_simp
                  exact hK _ _ ⟨rfl, hSW, fun _ h => h⟩
                | 1, _ =>
                  intro aq W hSW hf
                  have v0 : aq.tmps[0]? = some (.pointer (some ⟨b, 0, none⟩)) := (hf.at_base 0 (by kernel_rfl)).trans rfl
                  clear hf
                  refine wpOp_flow rfl (by rfl) (fun Kq hK => ?_)
                  go_simp
                  exact hK _ _ ⟨rfl, hSW, fun _ h => h⟩
                | 2, _ =>
                  intro aq W hSW hf
                  have v81 : aq.tmps[81]? = some (.pointer (some ⟨b, 0, none⟩)) := hf.val 1 81 (by kernel_rfl) rfl
                  clear hf
                  refine wpOp_flow rfl (by rfl) (fun Kq hK => ?_)
                  go_simp
                  exact hK _ _ ⟨rfl, hSW, fun _ h => h⟩
                | 3, _ =>
                  intro aq W hSW hf
                  have v82 : aq.tmps[82]? = some (.pointer (some ⟨b, 0, none⟩)) := hf.val 2 82 (by kernel_rfl) rfl
                  clear hf
                  refine wpOp_flow rfl (by rfl) (fun Kq hK => ?_)
                  go_simp
                  exact hK _ _ ⟨rfl, hSW, fun _ h => h⟩
                | 4, _ =>
                  intro aq W hSW hf
                  have v83 : aq.tmps[83]? = some (.pointer (some ⟨b, 0, none⟩)) := hf.val 3 83 (by kernel_rfl) rfl
                  clear hf
                  refine wpOp_flow rfl (by rfl) (fun Kq hK => ?_)
                  obtain ⟨c0, c1, -, -⟩ := HW.out W (hSW.bel)
                  go_simp
                  exact hK _ _ ⟨rfl, hSW, fun _ h => h⟩
                | 5, _ =>
                  intro aq W hSW hf
                  have v80 : aq.tmps[80]? = some (.agg #[.int .u32 (p.a : Int), .int .i64 p.l]) := hf.val 0 80 (by kernel_rfl) rfl
                  have v84 : aq.tmps[84]? = some (.agg #[.int .u32 (q.a : Int), .int .i64 q.l]) := hf.val 4 84 (by kernel_rfl) rfl
                  clear hf
                  refine wpOp_flow rfl (by rfl) (fun Kq hK => ?_)
                  go_simp
                  refine (common_any p q HV.out.1 HV.out.2.2.1 _).mono ?_
                  rw [HC.out]
                  rintro e w19 ⟨rfl, B19⟩
                  exact hK _ _ ⟨rfl, hSW.below B19, fun u hu => hu.below B19⟩
                | 6, _ =>
                  intro aq W hSW hf
                  have v85 : aq.tmps[85]? = some (.agg #[.int .u32 (c.a : Int), .int .i64 c.l]) := hf.val 5 85 (by kernel_rfl) rfl
                  clear hf
                  refine wpOp_flow rfl (by rfl) (fun Kq hK => ?_)
                  go_simp
                  exact hK _ _ ⟨rfl, hSW, fun _ h => h⟩
                | 7, _ =>
                  exact absurd rfl hik
                | 8, _ =>
                  exact absurd (hwk.symm.trans (by kernel_rfl : _ = true)) (by decide)
                | kq + 9, hk => exact absurd hk (by first | omega | (intro h; simp at h; omega))
              · intro aq W hSW hf
                have v86 : aq.tmps[86]? = some (.agg (nodeC c false att0 nilp nilp).toArray) := hf.val 6 86 (by kernel_rfl) rfl
                clear hf
                refine wpOp_flow rfl (by rfl) (fun Kq hK => ?_)
                have hne : W.heap.size ≠ w.heap.size + 1 + 1 := by have := ltOf (hSW.cell rfl); omega
                have hB := hSW.new _ (nodeC c false att0 nilp nilp).toArray rfl
                have hb2 := hSW.below ((Below.refl W.heap.size W).alloc (Nat.le_refl _) (.cells (nodeC c false att0 nilp nilp).toArray 93))
                have hl93 : (nodeC c false att0 nilp nilp).toArray.size = 16 := rfl
                clear hSW
                go_simp
                exact hK _ _ ⟨_, rfl, hb2, W.heap.size, rfl, hne, hB⟩
              · match iq, hiq with
                | 0, _ =>
                  exact absurd (hwk.symm.trans (by kernel_rfl : _ = false)) (by decide)
                | 1, _ =>
                  exact absurd (hwk.symm.trans (by kernel_rfl : _ = false)) (by decide)
                | 2, _ =>
                  exact absurd (hwk.symm.trans (by kernel_rfl : _ = false)) (by decide)
                | 3, _ =>
                  exact absurd (hwk.symm.trans (by kernel_rfl : _ = false)) (by decide)
                | 4, _ =>
                  exact absurd (hwk.symm.trans (by kernel_rfl : _ = false)) (by decide)
                | 5, _ =>
                  exact absurd (hwk.symm.trans (by kernel_rfl : _ = false)) (by decide)
                | 6, _ =>
                  exact absurd (hwk.symm.trans (by kernel_rfl : _ = false)) (by decide)
                | 7, _ =>
                  exact absurd rfl hik
                | 8, _ =>
                  intro u aq W hSW hE hf
                  have v87 : aq.tmps[87]? = some (u) := hf.val 7 87 (by kernel_rfl) rfl
                  clear hf
                  refine wpOp_flow rfl (by rfl) (fun Kq hK => ?_)
                  go_simp
                  exact hK _ _ ⟨rfl, hSW, hE⟩
                | kq + 9, hk => exact absurd hk (by first | omega | (intro h; simp at h; omega))
              · simp only [puts, Act.put, List.setIfInBounds_toArray, List.set_cons_zero, List.set_cons_succ]
                obtain ⟨g, rfl, hgn, h16⟩ := hE
                clear hSW
                have HG := hidp hgn
                go_wp2
                have h16d : PutS w p v g (nodeC c false att0 nilp nilp).toArray false W.drew := h16.below (Below.refl _ _).drew
                clear h16 hgn
                rcases side_lt c p with hs1 | hs1
                · have HS1 := hidp hs1
                  clear hs1
                  refine wp_region_flowU (fun iqv => ([(.pointer (some ⟨g, 0, none⟩) : Value), (.pointer (some ⟨g, 0, none⟩) : Value), (.pointer (some ⟨g, 0, none⟩) : Value), (.pointer (some ⟨g, 0, none⟩) : Value), (.agg #[.int .u32 (c.a : Int), .int .i64 c.l] : Value), (.agg #[.int .u32 (p.a : Int), .int .i64 p.l] : Value), (.int .i64 (0 : Int) : Value), (undef : Value), (.pointer (some ⟨g, 0, none⟩) : Value), (.pointer (some ⟨g, 14, none⟩) : Value), (.pointer (some ⟨g, 14, none⟩) : Value), (undef : Value)] : List Value).getD iqv undef) 7 11 (fun bb W => PutS w p v (g) (nodeC c false att0 nilp nilp).toArray bb W) (fun u bb W => PutE (g) (.pointer (some ⟨w.heap.size + 1 + 1, 0, none⟩)) (nodeC c false att0 (.pointer (some ⟨w.heap.size + 1 + 1, 0, none⟩)) nilp).toArray u bb W) (fun u => [(some 88, .pointer (some ⟨g, 0, none⟩)), (some 89, .pointer (some ⟨g, 0, none⟩)), (some 90, .pointer (some ⟨g, 0, none⟩)), (some 91, .pointer (some ⟨g, 0, none⟩)), (some 92, .agg #[.int .u32 (c.a : Int), .int .i64 c.l]), (some 93, .agg #[.int .u32 (p.a : Int), .int .i64 p.l]), (some 94, .int .i64 (0 : Int)), (some 95, u), (some 96, .pointer (some ⟨g, 0, none⟩)), (some 97, .pointer (some ⟨g, 14, none⟩)), (some 98, .pointer (some ⟨g, 14, none⟩)), (none, undef)]) (by kernel_rfl) (by kernel_rfl) (of_decide_eq_true (by kernel_rfl)) (of_decide_eq_true (by kernel_rfl)) (by kernel_rfl) (by kernel_rfl) (by kernel_rfl) h16d (fun iq hiq hik his => ?_) ?_ ?_ (fun u => by kernel_rfl) (fun u W hSW hE => ?_)
                  · match iq, hiq with
                    | 0, _ =>
                      intro bq aq W hSW hf
                      have v10 : aq.tmps[10]? = some (.pointer (some ⟨g, 0, none⟩)) := (hf.at_base 10 (by kernel_rfl)).trans rfl
                      clear hf
                      refine wpOp_flow rfl (by rfl) (fun Kq hK => ?_)
                      go_simp
                      exact hK _ _ ⟨rfl, hSW, fun _ h => h⟩
                    | 1, _ =>
                      intro bq aq W hSW hf
                      have v10 : aq.tmps[10]? = some (.pointer (some ⟨g, 0, none⟩)) := (hf.at_base 10 (by kernel_rfl)).trans rfl
                      clear hf
                      refine wpOp_flow rfl (by rfl) (fun Kq hK => ?_)
                      go_simp
                      exact hK _ _ ⟨rfl, hSW, fun _ h => h⟩
                    | 2, _ =>
                      intro bq aq W hSW hf
                      have v89 : aq.tmps[89]? = some (.pointer (some ⟨g, 0, none⟩)) := hf.val 1 89 (by kernel_rfl) rfl
                      clear hf
                      refine wpOp_flow rfl (by rfl) (fun Kq hK => ?_)
                      go_simp
                      exact hK _ _ ⟨rfl, hSW, fun _ h => h⟩
                    | 3, _ =>
                      intro bq aq W hSW hf
                      have v90 : aq.tmps[90]? = some (.pointer (some ⟨g, 0, none⟩)) := hf.val 2 90 (by kernel_rfl) rfl
                      clear hf
                      refine wpOp_flow rfl (by rfl) (fun Kq hK => ?_)
                      go_simp
                      exact hK _ _ ⟨rfl, hSW, fun _ h => h⟩
                    | 4, _ =>
                      intro bq aq W hSW hf
                      have v91 : aq.tmps[91]? = some (.pointer (some ⟨g, 0, none⟩)) := hf.val 3 91 (by kernel_rfl) rfl
                      clear hf
                      refine wpOp_flow rfl (by rfl) (fun Kq hK => ?_)
                      have e0 := hSW.top 0 (.int .u32 (c.a : Int)) (by omega) rfl
                      have e1 := hSW.top 1 (.int .i64 c.l) (by omega) rfl
                      go_simp
                      exact hK _ _ ⟨rfl, hSW, fun _ h => h⟩
                    | 5, _ =>
                      intro bq aq W hSW hf
                      have v4 : aq.tmps[4]? = some (.pointer (some ⟨w.heap.size, 0, none⟩)) := (hf.at_base 4 (by kernel_rfl)).trans rfl
                      clear hf
                      refine wpOp_flow rfl (by rfl) (fun Kq hK => ?_)
                      have hx := hSW
                      have d0 := cellOf hx.box 0 (v := .int .u32 (p.a : Int)) rfl
                      have d1 := cellOf hx.box 1 (v := .int .i64 p.l) rfl
                      clear hx
                      go_simp
                      exact hK _ _ ⟨rfl, hSW, fun _ h => h⟩
                    | 6, _ =>
                      intro bq aq W hSW hf
                      have v92 : aq.tmps[92]? = some (.agg #[.int .u32 (c.a : Int), .int .i64 c.l]) := hf.val 4 92 (by kernel_rfl) rfl
                      have v93 : aq.tmps[93]? = some (.agg #[.int .u32 (p.a : Int), .int .i64 p.l]) := hf.val 5 93 (by kernel_rfl) rfl
                      clear hf
                      refine wpOp_flow rfl (by rfl) (fun Kq hK => ?_)
                      go_simp
                      refine (side_any c p HV.out.1 _).mono ?_
                      rw [HS1.out]
                      rintro e w19 ⟨rfl, B19⟩
                      exact hK _ _ ⟨rfl, hSW.below B19, fun u hu => ⟨hu.1, fun hb => heap_below B19 (hu.2 hb) (ltOf (hu.2 hb))⟩⟩
                    | 7, _ =>
                      exact absurd rfl hik
                    | 8, _ =>
                      intro bq aq W hSW hf
                      have v88 : aq.tmps[88]? = some (.pointer (some ⟨g, 0, none⟩)) := hf.val 0 88 (by kernel_rfl) rfl
                      clear hf
                      refine wpOp_flow rfl (by rfl) (fun Kq hK => ?_)
                      go_simp
                      exact hK _ _ ⟨rfl, hSW, fun _ h => h⟩
                    | 9, _ =>
                      intro bq aq W hSW hf
                      have v96 : aq.tmps[96]? = some (.pointer (some ⟨g, 0, none⟩)) := hf.val 8 96 (by kernel_rfl) rfl
                      clear hf
                      refine wpOp_flow rfl (by rfl) (fun Kq hK => ?_)
                      go_simp
                      exact hK _ _ ⟨rfl, hSW, fun _ h => h⟩
                    | 10, _ =>
                      intro bq aq W hSW hf
                      have v94 : aq.tmps[94]? = some (.int .i64 (0 : Int)) := hf.val 6 94 (by kernel_rfl) rfl
                      have v97 : aq.tmps[97]? = some (.pointer (some ⟨g, 14, none⟩)) := hf.val 9 97 (by kernel_rfl) rfl
                      clear hf
                      refine wpOp_flow rfl (by rfl) (fun Kq hK => ?_)
                      go_simp
                      exact hK _ _ ⟨rfl, hSW, fun _ h => h⟩
                    | 11, _ =>
                      exact absurd rfl his
                    | kq + 12, hk => exact absurd hk (by first | omega | (intro h; simp at h; omega))
                  · intro aq W hSW hf
                    have v7 : aq.tmps[7]? = some (.pointer (some ⟨w.heap.size + 1 + 1, 0, none⟩)) := (hf.at_base 7 (by kernel_rfl)).trans rfl
                    clear hf
                    refine wpOp_flow rfl (by rfl) (fun Kq hK => ?_)
                    go_simp
                    exact hK _ _ ⟨_, rfl, hSW, rfl, fun h => by cases h⟩
                  · intro u aq W hSW hE hf
                    have v95 : aq.tmps[95]? = some (u) := hf.val 7 95 (by kernel_rfl) rfl
                    have v98 : aq.tmps[98]? = some (.pointer (some ⟨g, 14, none⟩)) := hf.val 10 98 (by kernel_rfl) rfl
                    clear hf
                    refine wpOp_flow rfl (by rfl) (fun Kq hK => ?_)
                    obtain ⟨rfl, -⟩ := hE
                    have hc := hSW.cell rfl
                    have hc1 := heap_setCell_same hc 14 (.pointer (some ⟨w.heap.size + 1 + 1, 0, none⟩))
                    rw [node_left] at hc1
                    have ck := cellOf hc 14 rfl
                    have fk := frozenOf hc 14
                    have hS7 := hSW.set 14 (by omega) (.pointer (some ⟨w.heap.size + 1 + 1, 0, none⟩))
                    have hE7 : PutE (g) (.pointer (some ⟨w.heap.size + 1 + 1, 0, none⟩)) (nodeC c false att0 (.pointer (some ⟨w.heap.size + 1 + 1, 0, none⟩)) nilp).toArray (.pointer (some ⟨w.heap.size + 1 + 1, 0, none⟩)) true (W.setCell ⟨g, 14, none⟩ (.pointer (some ⟨w.heap.size + 1 + 1, 0, none⟩))) := ⟨rfl, fun _ => hc1⟩
                    clear hSW hc hc1
                    go_simp
                    exact hK _ _ ⟨rfl, hS7, hE7⟩
                  · simp only [puts, Act.put, List.setIfInBounds_toArray, List.set_cons_zero, List.set_cons_succ]
                    obtain ⟨rfl, h4⟩ := hE
                    have hc := h4 rfl
                    have h17 : PutS w p v g (nodeC c false att0 (.pointer (some ⟨w.heap.size + 1 + 1, 0, none⟩)) nilp).toArray false W.drew := ⟨hSW.bel.drew, hSW.far, hSW.box, hSW.att, hSW.out, fun _ => hc, fun j x hj hx => cellOf hc j hx⟩
                    clear hSW h4 hc
                    go_wp2
                    rcases side_lt c q with hs2 | hs2
                    · have HS2 := hidp hs2
                      have HPA := hidp (show putA (Tr.node b q hs vv l r).ab p v = .node c false att0 (Ab.node q hs vv l.ab r.ab) (Ab.nil) from HPC.out.trans (by rw [HS1.out, hs2]; rfl))
                      have h17d := h17
                      clear hs2 h17
                      refine wp_region_flowU (fun iqv => ([(.pointer (some ⟨g, 0, none⟩) : Value), (.pointer (some ⟨g, 0, none⟩) : Value), (.pointer (some ⟨g, 0, none⟩) : Value), (.pointer (some ⟨g, 0, none⟩) : Value), (.agg #[.int .u32 (c.a : Int), .int .i64 c.l] : Value), (.pointer (some ⟨b, 0, none⟩) : Value), (.pointer (some ⟨b, 0, none⟩) : Value), (.pointer (some ⟨b, 0, none⟩) : Value), (.agg #[.int .u32 (q.a : Int), .int .i64 q.l] : Value), (.int .i64 (0 : Int) : Value), (undef : Value), (.pointer (some ⟨g, 0, none⟩) : Value), (.pointer (some ⟨g, 14, none⟩) : Value), (.pointer (some ⟨g, 14, none⟩) : Value), (undef : Value)] : List Value).getD iqv undef) 10 14 (fun bb W => PutS w p v (g) (nodeC c false att0 (.pointer (some ⟨w.heap.size + 1 + 1, 0, none⟩)) nilp).toArray bb W) (fun u bb W => PutE (g) (.pointer (some ⟨b, 0, none⟩)) (nodeC c false att0 (.pointer (some ⟨b, 0, none⟩)) nilp).toArray u bb W) (fun u => [(some 99, .pointer (some ⟨g, 0, none⟩)), (some 100, .pointer (some ⟨g, 0, none⟩)), (some 101, .pointer (some ⟨g, 0, none⟩)), (some 102, .pointer (some ⟨g, 0, none⟩)), (some 103, .agg #[.int .u32 (c.a : Int), .int .i64 c.l]), (some 104, .pointer (some ⟨b, 0, none⟩)), (some 105, .pointer (some ⟨b, 0, none⟩)), (some 106, .pointer (some ⟨b, 0, none⟩)), (some 107, .agg #[.int .u32 (q.a : Int), .int .i64 q.l]), (some 108, .int .i64 (0 : Int)), (some 109, u), (some 110, .pointer (some ⟨g, 0, none⟩)), (some 111, .pointer (some ⟨g, 14, none⟩)), (some 112, .pointer (some ⟨g, 14, none⟩)), (none, undef)]) (by kernel_rfl) (by kernel_rfl) (of_decide_eq_true (by kernel_rfl)) (of_decide_eq_true (by kernel_rfl)) (by kernel_rfl) (by kernel_rfl) (by kernel_rfl) h17d (fun iq hiq hik his => ?_) ?_ ?_ (fun u => by kernel_rfl) (fun u W hSW hE => ?_)
                      · match iq, hiq with
                        | 0, _ =>
                          intro bq aq W hSW hf
                          have v10 : aq.tmps[10]? = some (.pointer (some ⟨g, 0, none⟩)) := (hf.at_base 10 (by kernel_rfl)).trans rfl
                          clear hf
                          refine wpOp_flow rfl (by rfl) (fun Kq hK => ?_)
                          go_simp
                          exact hK _ _ ⟨rfl, hSW, fun _ h => h⟩
                        | 1, _ =>
                          intro bq aq W hSW hf
                          have v10 : aq.tmps[10]? = some (.pointer (some ⟨g, 0, none⟩)) := (hf.at_base 10 (by kernel_rfl)).trans rfl
                          clear hf
                          refine wpOp_flow rfl (by rfl) (fun Kq hK => ?_)
                          go_simp
                          exact hK _ _ ⟨rfl, hSW, fun _ h => h⟩
                        | 2, _ =>
                          intro bq aq W hSW hf
                          have v100 : aq.tmps[100]? = some (.pointer (some ⟨g, 0, none⟩)) := hf.val 1 100 (by kernel_rfl) rfl
                          clear hf
                          refine wpOp_flow rfl (by rfl) (fun Kq hK => ?_)
                          go_simp
                          exact hK _ _ ⟨rfl, hSW, fun _ h => h⟩
                        | 3, _ =>
                          intro bq aq W hSW hf
                          have v101 : aq.tmps[101]? = some (.pointer (some ⟨g, 0, none⟩)) := hf.val 2 101 (by kernel_rfl) rfl
                          clear hf
                          refine wpOp_flow rfl (by rfl) (fun Kq hK => ?_)
                          go_simp
                          exact hK _ _ ⟨rfl, hSW, fun _ h => h⟩
                        | 4, _ =>
                          intro bq aq W hSW hf
                          have v102 : aq.tmps[102]? = some (.pointer (some ⟨g, 0, none⟩)) := hf.val 3 102 (by kernel_rfl) rfl
                          clear hf
                          refine wpOp_flow rfl (by rfl) (fun Kq hK => ?_)
                          have e0 := hSW.top 0 (.int .u32 (c.a : Int)) (by omega) rfl
                          have e1 := hSW.top 1 (.int .i64 c.l) (by omega) rfl
                          go_simp
                          exact hK _ _ ⟨rfl, hSW, fun _ h => h⟩
                        | 5, _ =>
                          intro bq aq W hSW hf
                          have v0 : aq.tmps[0]? = some (.pointer (some ⟨b, 0, none⟩)) := (hf.at_base 0 (by kernel_rfl)).trans rfl
                          clear hf
                          refine wpOp_flow rfl (by rfl) (fun Kq hK => ?_)
                          go_simp
                          exact hK _ _ ⟨rfl, hSW, fun _ h => h⟩
                        | 6, _ =>
                          intro bq aq W hSW hf
                          have v104 : aq.tmps[104]? = some (.pointer (some ⟨b, 0, none⟩)) := hf.val 5 104 (by kernel_rfl) rfl
                          clear hf
                          refine wpOp_flow rfl (by rfl) (fun Kq hK => ?_)
                          go_simp
                          exact hK _ _ ⟨rfl, hSW, fun _ h => h⟩
                        | 7, _ =>
                          intro bq aq W hSW hf
                          have v105 : aq.tmps[105]? = some (.pointer (some ⟨b, 0, none⟩)) := hf.val 6 105 (by kernel_rfl) rfl
                          clear hf
                          refine wpOp_flow rfl (by rfl) (fun Kq hK => ?_)
                          go_simp
                          exact hK _ _ ⟨rfl, hSW, fun _ h => h⟩
                        | 8, _ =>
                          intro bq aq W hSW hf
                          have v106 : aq.tmps[106]? = some (.pointer (some ⟨b, 0, none⟩)) := hf.val 7 106 (by kernel_rfl) rfl
                          clear hf
                          refine wpOp_flow rfl (by rfl) (fun Kq hK => ?_)
                          obtain ⟨c0, c1, -, -⟩ := HW.out W (hSW.bel)
                          go_simp
                          exact hK _ _ ⟨rfl, hSW, fun _ h => h⟩
                        | 9, _ =>
                          intro bq aq W hSW hf
                          have v103 : aq.tmps[103]? = some (.agg #[.int .u32 (c.a : Int), .int .i64 c.l]) := hf.val 4 103 (by kernel_rfl) rfl
                          have v107 : aq.tmps[107]? = some (.agg #[.int .u32 (q.a : Int), .int .i64 q.l]) := hf.val 8 107 (by kernel_rfl) rfl
                          clear hf
                          refine wpOp_flow rfl (by rfl) (fun Kq hK => ?_)
                          go_simp
                          refine (side_any c q HV.out.2.2.1 _).mono ?_
                          rw [HS2.out]
                          rintro e w19 ⟨rfl, B19⟩
                          exact hK _ _ ⟨rfl, hSW.below B19, fun u hu => ⟨hu.1, fun hb => heap_below B19 (hu.2 hb) (ltOf (hu.2 hb))⟩⟩
                        | 10, _ =>
                          exact absurd rfl hik
                        | 11, _ =>
                          intro bq aq W hSW hf
                          have v99 : aq.tmps[99]? = some (.pointer (some ⟨g, 0, none⟩)) := hf.val 0 99 (by kernel_rfl) rfl
                          clear hf
                          refine wpOp_flow rfl (by rfl) (fun Kq hK => ?_)
                          go_simp
                          exact hK _ _ ⟨rfl, hSW, fun _ h => h⟩
                        | 12, _ =>
                          intro bq aq W hSW hf
                          have v110 : aq.tmps[110]? = some (.pointer (some ⟨g, 0, none⟩)) := hf.val 11 110 (by kernel_rfl) rfl
                          clear hf
                          refine wpOp_flow rfl (by rfl) (fun Kq hK => ?_)
                          go_simp
                          exact hK _ _ ⟨rfl, hSW, fun _ h => h⟩
                        | 13, _ =>
                          intro bq aq W hSW hf
                          have v108 : aq.tmps[108]? = some (.int .i64 (0 : Int)) := hf.val 9 108 (by kernel_rfl) rfl
                          have v111 : aq.tmps[111]? = some (.pointer (some ⟨g, 14, none⟩)) := hf.val 12 111 (by kernel_rfl) rfl
                          clear hf
                          refine wpOp_flow rfl (by rfl) (fun Kq hK => ?_)
                          go_simp
                          exact hK _ _ ⟨rfl, hSW, fun _ h => h⟩
                        | 14, _ =>
                          exact absurd rfl his
                        | kq + 15, hk => exact absurd hk (by first | omega | (intro h; simp at h; omega))
                      · intro aq W hSW hf
                        have v0 : aq.tmps[0]? = some (.pointer (some ⟨b, 0, none⟩)) := (hf.at_base 0 (by kernel_rfl)).trans rfl
                        clear hf
                        refine wpOp_flow rfl (by rfl) (fun Kq hK => ?_)
                        go_simp
                        exact hK _ _ ⟨_, rfl, hSW, rfl, fun h => by cases h⟩
                      · intro u aq W hSW hE hf
                        have v109 : aq.tmps[109]? = some (u) := hf.val 10 109 (by kernel_rfl) rfl
                        have v112 : aq.tmps[112]? = some (.pointer (some ⟨g, 14, none⟩)) := hf.val 13 112 (by kernel_rfl) rfl
                        clear hf
                        refine wpOp_flow rfl (by rfl) (fun Kq hK => ?_)
                        obtain ⟨rfl, -⟩ := hE
                        have hc := hSW.cell rfl
                        have hc1 := heap_setCell_same hc 14 (.pointer (some ⟨b, 0, none⟩))
                        rw [node_left] at hc1
                        have ck := cellOf hc 14 rfl
                        have fk := frozenOf hc 14
                        have hS7 := hSW.set 14 (by omega) (.pointer (some ⟨b, 0, none⟩))
                        have hE7 : PutE (g) (.pointer (some ⟨b, 0, none⟩)) (nodeC c false att0 (.pointer (some ⟨b, 0, none⟩)) nilp).toArray (.pointer (some ⟨b, 0, none⟩)) true (W.setCell ⟨g, 14, none⟩ (.pointer (some ⟨b, 0, none⟩))) := ⟨rfl, fun _ => hc1⟩
                        clear hSW hc hc1
                        go_simp
                        exact hK _ _ ⟨rfl, hS7, hE7⟩
                      · simp only [puts, Act.put, List.setIfInBounds_toArray, List.set_cons_zero, List.set_cons_succ]
                        obtain ⟨rfl, h4⟩ := hE
                        have hc := h4 rfl
                        have hgf := hSW.far
                        have HRES : Hid (PutR wA p v (Tr.node b q hs vv l r) w (.returned (.pointer (some ⟨g, 0, none⟩))) W) := by
                          exact ⟨⟨.node g c false att0 (.node b q hs vv l r) .nil, rfl, ⟨hc, HCC.out, att0_at wA, HX.out.below hSW.bel, trivial⟩, by rw [HPA.out]; rfl, from_mk (by omega) (from_self _ _) (from_nil _ _)⟩, hSW.bel⟩
                        clear hSW h4 hc hgf
                        go_wp2
                        go_ret
                        exact HRES.out
                    · have HS2 := hidp hs2
                      have HPA := hidp (show putA (Tr.node b q hs vv l r).ab p v = .node c false att0 (Ab.node p true v .nil .nil) (Ab.node q hs vv l.ab r.ab) from HPC.out.trans (by rw [HS1.out, hs2]; rfl))
                      have h17d := h17
                      clear hs2 h17
                      refine wp_region_flowU (fun iqv => ([(.pointer (some ⟨g, 0, none⟩) : Value), (.pointer (some ⟨g, 0, none⟩) : Value), (.pointer (some ⟨g, 0, none⟩) : Value), (.pointer (some ⟨g, 0, none⟩) : Value), (.agg #[.int .u32 (c.a : Int), .int .i64 c.l] : Value), (.pointer (some ⟨b, 0, none⟩) : Value), (.pointer (some ⟨b, 0, none⟩) : Value), (.pointer (some ⟨b, 0, none⟩) : Value), (.agg #[.int .u32 (q.a : Int), .int .i64 q.l] : Value), (.int .i64 (1 : Int) : Value), (undef : Value), (.pointer (some ⟨g, 0, none⟩) : Value), (.pointer (some ⟨g, 14, none⟩) : Value), (.pointer (some ⟨g, 15, none⟩) : Value), (undef : Value)] : List Value).getD iqv undef) 10 14 (fun bb W => PutS w p v (g) (nodeC c false att0 (.pointer (some ⟨w.heap.size + 1 + 1, 0, none⟩)) nilp).toArray bb W) (fun u bb W => PutE (g) (.pointer (some ⟨b, 0, none⟩)) (nodeC c false att0 (.pointer (some ⟨w.heap.size + 1 + 1, 0, none⟩)) (.pointer (some ⟨b, 0, none⟩))).toArray u bb W) (fun u => [(some 99, .pointer (some ⟨g, 0, none⟩)), (some 100, .pointer (some ⟨g, 0, none⟩)), (some 101, .pointer (some ⟨g, 0, none⟩)), (some 102, .pointer (some ⟨g, 0, none⟩)), (some 103, .agg #[.int .u32 (c.a : Int), .int .i64 c.l]), (some 104, .pointer (some ⟨b, 0, none⟩)), (some 105, .pointer (some ⟨b, 0, none⟩)), (some 106, .pointer (some ⟨b, 0, none⟩)), (some 107, .agg #[.int .u32 (q.a : Int), .int .i64 q.l]), (some 108, .int .i64 (1 : Int)), (some 109, u), (some 110, .pointer (some ⟨g, 0, none⟩)), (some 111, .pointer (some ⟨g, 14, none⟩)), (some 112, .pointer (some ⟨g, 15, none⟩)), (none, undef)]) (by kernel_rfl) (by kernel_rfl) (of_decide_eq_true (by kernel_rfl)) (of_decide_eq_true (by kernel_rfl)) (by kernel_rfl) (by kernel_rfl) (by kernel_rfl) h17d (fun iq hiq hik his => ?_) ?_ ?_ (fun u => by kernel_rfl) (fun u W hSW hE => ?_)
                      · match iq, hiq with
                        | 0, _ =>
                          intro bq aq W hSW hf
                          have v10 : aq.tmps[10]? = some (.pointer (some ⟨g, 0, none⟩)) := (hf.at_base 10 (by kernel_rfl)).trans rfl
                          clear hf
                          refine wpOp_flow rfl (by rfl) (fun Kq hK => ?_)
                          go_simp
                          exact hK _ _ ⟨rfl, hSW, fun _ h => h⟩
                        | 1, _ =>
                          intro bq aq W hSW hf
                          have v10 : aq.tmps[10]? = some (.pointer (some ⟨g, 0, none⟩)) := (hf.at_base 10 (by kernel_rfl)).trans rfl
                          clear hf
                          refine wpOp_flow rfl (by rfl) (fun Kq hK => ?_)
                          go_simp
                          exact hK _ _ ⟨rfl, hSW, fun _ h => h⟩
                        | 2, _ =>
                          intro bq aq W hSW hf
                          have v100 : aq.tmps[100]? = some (.pointer (some ⟨g, 0, none⟩)) := hf.val 1 100 (by kernel_rfl) rfl
                          clear hf
                          refine wpOp_flow rfl (by rfl) (fun Kq hK => ?_)
                          go_simp
                          exact hK _ _ ⟨rfl, hSW, fun _ h => h⟩
                        | 3, _ =>
                          intro bq aq W hSW hf
                          have v101 : aq.tmps[101]? = some (.pointer (some ⟨g, 0, none⟩)) := hf.val 2 101 (by kernel_rfl) rfl
                          clear hf
                          refine wpOp_flow rfl (by rfl) (fun Kq hK => ?_)
                          go_simp
                          exact hK _ _ ⟨rfl, hSW, fun _ h => h⟩
                        | 4, _ =>
                          intro bq aq W hSW hf
                          have v102 : aq.tmps[102]? = some (.pointer (some ⟨g, 0, none⟩)) := hf.val 3 102 (by kernel_rfl) rfl
                          clear hf
                          refine wpOp_flow rfl (by rfl) (fun Kq hK => ?_)
                          have e0 := hSW.top 0 (.int .u32 (c.a : Int)) (by omega) rfl
                          have e1 := hSW.top 1 (.int .i64 c.l) (by omega) rfl
                          go_simp
                          exact hK _ _ ⟨rfl, hSW, fun _ h => h⟩
                        | 5, _ =>
                          intro bq aq W hSW hf
                          have v0 : aq.tmps[0]? = some (.pointer (some ⟨b, 0, none⟩)) := (hf.at_base 0 (by kernel_rfl)).trans rfl
                          clear hf
                          refine wpOp_flow rfl (by rfl) (fun Kq hK => ?_)
                          go_simp
                          exact hK _ _ ⟨rfl, hSW, fun _ h => h⟩
                        | 6, _ =>
                          intro bq aq W hSW hf
                          have v104 : aq.tmps[104]? = some (.pointer (some ⟨b, 0, none⟩)) := hf.val 5 104 (by kernel_rfl) rfl
                          clear hf
                          refine wpOp_flow rfl (by rfl) (fun Kq hK => ?_)
                          go_simp
                          exact hK _ _ ⟨rfl, hSW, fun _ h => h⟩
                        | 7, _ =>
                          intro bq aq W hSW hf
                          have v105 : aq.tmps[105]? = some (.pointer (some ⟨b, 0, none⟩)) := hf.val 6 105 (by kernel_rfl) rfl
                          clear hf
                          refine wpOp_flow rfl (by rfl) (fun Kq hK => ?_)
                          go_simp
                          exact hK _ _ ⟨rfl, hSW, fun _ h => h⟩
                        | 8, _ =>
                          intro bq aq W hSW hf
                          have v106 : aq.tmps[106]? = some (.pointer (some ⟨b, 0, none⟩)) := hf.val 7 106 (by kernel_rfl) rfl
                          clear hf
                          refine wpOp_flow rfl (by rfl) (fun Kq hK => ?_)
                          obtain ⟨c0, c1, -, -⟩ := HW.out W (hSW.bel)
                          go_simp
                          exact hK _ _ ⟨rfl, hSW, fun _ h => h⟩
                        | 9, _ =>
                          intro bq aq W hSW hf
                          have v103 : aq.tmps[103]? = some (.agg #[.int .u32 (c.a : Int), .int .i64 c.l]) := hf.val 4 103 (by kernel_rfl) rfl
                          have v107 : aq.tmps[107]? = some (.agg #[.int .u32 (q.a : Int), .int .i64 q.l]) := hf.val 8 107 (by kernel_rfl) rfl
                          clear hf
                          refine wpOp_flow rfl (by rfl) (fun Kq hK => ?_)
                          go_simp
                          refine (side_any c q HV.out.2.2.1 _).mono ?_
                          rw [HS2.out]
                          rintro e w19 ⟨rfl, B19⟩
                          exact hK _ _ ⟨rfl, hSW.below B19, fun u hu => ⟨hu.1, fun hb => heap_below B19 (hu.2 hb) (ltOf (hu.2 hb))⟩⟩
                        | 10, _ =>
                          exact absurd rfl hik
                        | 11, _ =>
                          intro bq aq W hSW hf
                          have v99 : aq.tmps[99]? = some (.pointer (some ⟨g, 0, none⟩)) := hf.val 0 99 (by kernel_rfl) rfl
                          clear hf
                          refine wpOp_flow rfl (by rfl) (fun Kq hK => ?_)
                          go_simp
                          exact hK _ _ ⟨rfl, hSW, fun _ h => h⟩
                        | 12, _ =>
                          intro bq aq W hSW hf
                          have v110 : aq.tmps[110]? = some (.pointer (some ⟨g, 0, none⟩)) := hf.val 11 110 (by kernel_rfl) rfl
                          clear hf
                          refine wpOp_flow rfl (by rfl) (fun Kq hK => ?_)
                          go_simp
                          exact hK _ _ ⟨rfl, hSW, fun _ h => h⟩
                        | 13, _ =>
                          intro bq aq W hSW hf
                          have v108 : aq.tmps[108]? = some (.int .i64 (1 : Int)) := hf.val 9 108 (by kernel_rfl) rfl
                          have v111 : aq.tmps[111]? = some (.pointer (some ⟨g, 14, none⟩)) := hf.val 12 111 (by kernel_rfl) rfl
                          clear hf
                          refine wpOp_flow rfl (by rfl) (fun Kq hK => ?_)
                          go_simp
                          exact hK _ _ ⟨rfl, hSW, fun _ h => h⟩
                        | 14, _ =>
                          exact absurd rfl his
                        | kq + 15, hk => exact absurd hk (by first | omega | (intro h; simp at h; omega))
                      · intro aq W hSW hf
                        have v0 : aq.tmps[0]? = some (.pointer (some ⟨b, 0, none⟩)) := (hf.at_base 0 (by kernel_rfl)).trans rfl
                        clear hf
                        refine wpOp_flow rfl (by rfl) (fun Kq hK => ?_)
                        go_simp
                        exact hK _ _ ⟨_, rfl, hSW, rfl, fun h => by cases h⟩
                      · intro u aq W hSW hE hf
                        have v109 : aq.tmps[109]? = some (u) := hf.val 10 109 (by kernel_rfl) rfl
                        have v112 : aq.tmps[112]? = some (.pointer (some ⟨g, 15, none⟩)) := hf.val 13 112 (by kernel_rfl) rfl
                        clear hf
                        refine wpOp_flow rfl (by rfl) (fun Kq hK => ?_)
                        obtain ⟨rfl, -⟩ := hE
                        have hc := hSW.cell rfl
                        have hc1 := heap_setCell_same hc 15 (.pointer (some ⟨b, 0, none⟩))
                        rw [node_right] at hc1
                        have ck := cellOf hc 15 rfl
                        have fk := frozenOf hc 15
                        have hS7 := hSW.set 15 (by omega) (.pointer (some ⟨b, 0, none⟩))
                        have hE7 : PutE (g) (.pointer (some ⟨b, 0, none⟩)) (nodeC c false att0 (.pointer (some ⟨w.heap.size + 1 + 1, 0, none⟩)) (.pointer (some ⟨b, 0, none⟩))).toArray (.pointer (some ⟨b, 0, none⟩)) true (W.setCell ⟨g, 15, none⟩ (.pointer (some ⟨b, 0, none⟩))) := ⟨rfl, fun _ => hc1⟩
                        clear hSW hc hc1
                        go_simp
                        exact hK _ _ ⟨rfl, hS7, hE7⟩
                      · simp only [puts, Act.put, List.setIfInBounds_toArray, List.set_cons_zero, List.set_cons_succ]
                        obtain ⟨rfl, h4⟩ := hE
                        have hc := h4 rfl
                        have hgf := hSW.far
                        have HRES : Hid (PutR wA p v (Tr.node b q hs vv l r) w (.returned (.pointer (some ⟨g, 0, none⟩))) W) := by
                          exact ⟨⟨.node g c false att0 (.node (w.heap.size + 1 + 1) p true v .nil .nil) (.node b q hs vv l r), rfl, ⟨hc, HCC.out, att0_at wA, ⟨hSW.out HG.out, HV.out.1, HV.out.2.1, trivial, trivial⟩, HX.out.below hSW.bel⟩, by rw [HPA.out]; rfl, from_mk (by omega) (from_mk (by omega) (from_nil _ _) (from_nil _ _)) (from_self _ _)⟩, hSW.bel⟩
                        clear hSW h4 hc hgf
                        go_wp2
                        go_ret
                        exact HRES.out
                · have HS1 := hidp hs1
                  clear hs1
                  refine wp_region_flowU (fun iqv => ([(.pointer (some ⟨g, 0, none⟩) : Value), (.pointer (some ⟨g, 0, none⟩) : Value), (.pointer (some ⟨g, 0, none⟩) : Value), (.pointer (some ⟨g, 0, none⟩) : Value), (.agg #[.int .u32 (c.a : Int), .int .i64 c.l] : Value), (.agg #[.int .u32 (p.a : Int), .int .i64 p.l] : Value), (.int .i64 (1 : Int) : Value), (undef : Value), (.pointer (some ⟨g, 0, none⟩) : Value), (.pointer (some ⟨g, 14, none⟩) : Value), (.pointer (some ⟨g, 15, none⟩) : Value), (undef : Value)] : List Value).getD iqv undef) 7 11 (fun bb W => PutS w p v (g) (nodeC c false att0 nilp nilp).toArray bb W) (fun u bb W => PutE (g) (.pointer (some ⟨w.heap.size + 1 + 1, 0, none⟩)) (nodeC c false att0 nilp (.pointer (some ⟨w.heap.size + 1 + 1, 0, none⟩))).toArray u bb W) (fun u => [(some 88, .pointer (some ⟨g, 0, none⟩)), (some 89, .pointer (some ⟨g, 0, none⟩)), (some 90, .pointer (some ⟨g, 0, none⟩)), (some 91, .pointer (some ⟨g, 0, none⟩)), (some 92, .agg #[.int .u32 (c.a : Int), .int .i64 c.l]), (some 93, .agg #[.int .u32 (p.a : Int), .int .i64 p.l]), (some 94, .int .i64 (1 : Int)), (some 95, u), (some 96, .pointer (some ⟨g, 0, none⟩)), (some 97, .pointer (some ⟨g, 14, none⟩)), (some 98, .pointer (some ⟨g, 15, none⟩)), (none, undef)]) (by kernel_rfl) (by kernel_rfl) (of_decide_eq_true (by kernel_rfl)) (of_decide_eq_true (by kernel_rfl)) (by kernel_rfl) (by kernel_rfl) (by kernel_rfl) h16d (fun iq hiq hik his => ?_) ?_ ?_ (fun u => by kernel_rfl) (fun u W hSW hE => ?_)
                  · match iq, hiq with
                    | 0, _ =>
                      intro bq aq W hSW hf
                      have v10 : aq.tmps[10]? = some (.pointer (some ⟨g, 0, none⟩)) := (hf.at_base 10 (by kernel_rfl)).trans rfl
                      clear hf
                      refine wpOp_flow rfl (by rfl) (fun Kq hK => ?_)
                      go_simp
                      exact hK _ _ ⟨rfl, hSW, fun _ h => h⟩
                    | 1, _ =>
                      intro bq aq W hSW hf
                      have v10 : aq.tmps[10]? = some (.pointer (some ⟨g, 0, none⟩)) := (hf.at_base 10 (by kernel_rfl)).trans rfl
                      clear hf
                      refine wpOp_flow rfl (by rfl) (fun Kq hK => ?_)
                      go_simp
                      exact hK _ _ ⟨rfl, hSW, fun _ h => h⟩
                    | 2, _ =>
                      intro bq aq W hSW hf
                      have v89 : aq.tmps[89]? = some (.pointer (some ⟨g, 0, none⟩)) := hf.val 1 89 (by kernel_rfl) rfl
                      clear hf
                      refine wpOp_flow rfl (by rfl) (fun Kq hK => ?_)
                      go_simp
                      exact hK _ _ ⟨rfl, hSW, fun _ h => h⟩
                    | 3, _ =>
                      intro bq aq W hSW hf
                      have v90 : aq.tmps[90]? = some (.pointer (some ⟨g, 0, none⟩)) := hf.val 2 90 (by kernel_rfl) rfl
                      clear hf
                      refine wpOp_flow rfl (by rfl) (fun Kq hK => ?_)
                      go_simp
                      exact hK _ _ ⟨rfl, hSW, fun _ h => h⟩
                    | 4, _ =>
                      intro bq aq W hSW hf
                      have v91 : aq.tmps[91]? = some (.pointer (some ⟨g, 0, none⟩)) := hf.val 3 91 (by kernel_rfl) rfl
                      clear hf
                      refine wpOp_flow rfl (by rfl) (fun Kq hK => ?_)
                      have e0 := hSW.top 0 (.int .u32 (c.a : Int)) (by omega) rfl
                      have e1 := hSW.top 1 (.int .i64 c.l) (by omega) rfl
                      go_simp
                      exact hK _ _ ⟨rfl, hSW, fun _ h => h⟩
                    | 5, _ =>
                      intro bq aq W hSW hf
                      have v4 : aq.tmps[4]? = some (.pointer (some ⟨w.heap.size, 0, none⟩)) := (hf.at_base 4 (by kernel_rfl)).trans rfl
                      clear hf
                      refine wpOp_flow rfl (by rfl) (fun Kq hK => ?_)
                      have hx := hSW
                      have d0 := cellOf hx.box 0 (v := .int .u32 (p.a : Int)) rfl
                      have d1 := cellOf hx.box 1 (v := .int .i64 p.l) rfl
                      clear hx
                      go_simp
                      exact hK _ _ ⟨rfl, hSW, fun _ h => h⟩
                    | 6, _ =>
                      intro bq aq W hSW hf
                      have v92 : aq.tmps[92]? = some (.agg #[.int .u32 (c.a : Int), .int .i64 c.l]) := hf.val 4 92 (by kernel_rfl) rfl
                      have v93 : aq.tmps[93]? = some (.agg #[.int .u32 (p.a : Int), .int .i64 p.l]) := hf.val 5 93 (by kernel_rfl) rfl
                      clear hf
                      refine wpOp_flow rfl (by rfl) (fun Kq hK => ?_)
                      go_simp
                      refine (side_any c p HV.out.1 _).mono ?_
                      rw [HS1.out]
                      rintro e w19 ⟨rfl, B19⟩
                      exact hK _ _ ⟨rfl, hSW.below B19, fun u hu => ⟨hu.1, fun hb => heap_below B19 (hu.2 hb) (ltOf (hu.2 hb))⟩⟩
                    | 7, _ =>
                      exact absurd rfl hik
                    | 8, _ =>
                      intro bq aq W hSW hf
                      have v88 : aq.tmps[88]? = some (.pointer (some ⟨g, 0, none⟩)) := hf.val 0 88 (by kernel_rfl) rfl
                      clear hf
                      refine wpOp_flow rfl (by rfl) (fun Kq hK => ?_)
                      go_simp
                      exact hK _ _ ⟨rfl, hSW, fun _ h => h⟩
                    | 9, _ =>
                      intro bq aq W hSW hf
                      have v96 : aq.tmps[96]? = some (.pointer (some ⟨g, 0, none⟩)) := hf.val 8 96 (by kernel_rfl) rfl
                      clear hf
                      refine wpOp_flow rfl (by rfl) (fun Kq hK => ?_)
                      go_simp
                      exact hK _ _ ⟨rfl, hSW, fun _ h => h⟩
                    | 10, _ =>
                      intro bq aq W hSW hf
                      have v94 : aq.tmps[94]? = some (.int .i64 (1 : Int)) := hf.val 6 94 (by kernel_rfl) rfl
                      have v97 : aq.tmps[97]? = some (.pointer (some ⟨g, 14, none⟩)) := hf.val 9 97 (by kernel_rfl) rfl
                      clear hf
                      refine wpOp_flow rfl (by rfl) (fun Kq hK => ?_)
                      go_simp
                      exact hK _ _ ⟨rfl, hSW, fun _ h => h⟩
                    | 11, _ =>
                      exact absurd rfl his
                    | kq + 12, hk => exact absurd hk (by first | omega | (intro h; simp at h; omega))
                  · intro aq W hSW hf
                    have v7 : aq.tmps[7]? = some (.pointer (some ⟨w.heap.size + 1 + 1, 0, none⟩)) := (hf.at_base 7 (by kernel_rfl)).trans rfl
                    clear hf
                    refine wpOp_flow rfl (by rfl) (fun Kq hK => ?_)
                    go_simp
                    exact hK _ _ ⟨_, rfl, hSW, rfl, fun h => by cases h⟩
                  · intro u aq W hSW hE hf
                    have v95 : aq.tmps[95]? = some (u) := hf.val 7 95 (by kernel_rfl) rfl
                    have v98 : aq.tmps[98]? = some (.pointer (some ⟨g, 15, none⟩)) := hf.val 10 98 (by kernel_rfl) rfl
                    clear hf
                    refine wpOp_flow rfl (by rfl) (fun Kq hK => ?_)
                    obtain ⟨rfl, -⟩ := hE
                    have hc := hSW.cell rfl
                    have hc1 := heap_setCell_same hc 15 (.pointer (some ⟨w.heap.size + 1 + 1, 0, none⟩))
                    rw [node_right] at hc1
                    have ck := cellOf hc 15 rfl
                    have fk := frozenOf hc 15
                    have hS7 := hSW.set 15 (by omega) (.pointer (some ⟨w.heap.size + 1 + 1, 0, none⟩))
                    have hE7 : PutE (g) (.pointer (some ⟨w.heap.size + 1 + 1, 0, none⟩)) (nodeC c false att0 nilp (.pointer (some ⟨w.heap.size + 1 + 1, 0, none⟩))).toArray (.pointer (some ⟨w.heap.size + 1 + 1, 0, none⟩)) true (W.setCell ⟨g, 15, none⟩ (.pointer (some ⟨w.heap.size + 1 + 1, 0, none⟩))) := ⟨rfl, fun _ => hc1⟩
                    clear hSW hc hc1
                    go_simp
                    exact hK _ _ ⟨rfl, hS7, hE7⟩
                  · simp only [puts, Act.put, List.setIfInBounds_toArray, List.set_cons_zero, List.set_cons_succ]
                    obtain ⟨rfl, h4⟩ := hE
                    have hc := h4 rfl
                    have h17 : PutS w p v g (nodeC c false att0 nilp (.pointer (some ⟨w.heap.size + 1 + 1, 0, none⟩))).toArray false W.drew := ⟨hSW.bel.drew, hSW.far, hSW.box, hSW.att, hSW.out, fun _ => hc, fun j x hj hx => cellOf hc j hx⟩
                    clear hSW h4 hc
                    go_wp2
                    rcases side_lt c q with hs2 | hs2
                    · have HS2 := hidp hs2
                      have HPA := hidp (show putA (Tr.node b q hs vv l r).ab p v = .node c false att0 (Ab.node q hs vv l.ab r.ab) (Ab.node p true v .nil .nil) from HPC.out.trans (by rw [HS1.out, hs2]; rfl))
                      have h17d := h17
                      clear hs2 h17
                      refine wp_region_flowU (fun iqv => ([(.pointer (some ⟨g, 0, none⟩) : Value), (.pointer (some ⟨g, 0, none⟩) : Value), (.pointer (some ⟨g, 0, none⟩) : Value), (.pointer (some ⟨g, 0, none⟩) : Value), (.agg #[.int .u32 (c.a : Int), .int .i64 c.l] : Value), (.pointer (some ⟨b, 0, none⟩) : Value), (.pointer (some ⟨b, 0, none⟩) : Value), (.pointer (some ⟨b, 0, none⟩) : Value), (.agg #[.int .u32 (q.a : Int), .int .i64 q.l] : Value), (.int .i64 (0 : Int) : Value), (undef : Value), (.pointer (some ⟨g, 0, none⟩) : Value), (.pointer (some ⟨g, 14, none⟩) : Value), (.pointer (some ⟨g, 14, none⟩) : Value), (undef : Value)] : List Value).getD iqv undef) 10 14 (fun bb W => PutS w p v (g) (nodeC c false att0 nilp (.pointer (some ⟨w.heap.size + 1 + 1, 0, none⟩))).toArray bb W) (fun u bb W => PutE (g) (.pointer (some ⟨b, 0, none⟩)) (nodeC c false att0 (.pointer (some ⟨b, 0, none⟩)) (.pointer (some ⟨w.heap.size + 1 + 1, 0, none⟩))).toArray u bb W) (fun u => [(some 99, .pointer (some ⟨g, 0, none⟩)), (some 100, .pointer (some ⟨g, 0, none⟩)), (some 101, .pointer (some ⟨g, 0, none⟩)), (some 102, .pointer (some ⟨g, 0, none⟩)), (some 103, .agg #[.int .u32 (c.a : Int), .int .i64 c.l]), (some 104, .pointer (some ⟨b, 0, none⟩)), (some 105, .pointer (some ⟨b, 0, none⟩)), (some 106, .pointer (some ⟨b, 0, none⟩)), (some 107, .agg #[.int .u32 (q.a : Int), .int .i64 q.l]), (some 108, .int .i64 (0 : Int)), (some 109, u), (some 110, .pointer (some ⟨g, 0, none⟩)), (some 111, .pointer (some ⟨g, 14, none⟩)), (some 112, .pointer (some ⟨g, 14, none⟩)), (none, undef)]) (by kernel_rfl) (by kernel_rfl) (of_decide_eq_true (by kernel_rfl)) (of_decide_eq_true (by kernel_rfl)) (by kernel_rfl) (by kernel_rfl) (by kernel_rfl) h17d (fun iq hiq hik his => ?_) ?_ ?_ (fun u => by kernel_rfl) (fun u W hSW hE => ?_)
                      · match iq, hiq with
                        | 0, _ =>
                          intro bq aq W hSW hf
                          have v10 : aq.tmps[10]? = some (.pointer (some ⟨g, 0, none⟩)) := (hf.at_base 10 (by kernel_rfl)).trans rfl
                          clear hf
                          refine wpOp_flow rfl (by rfl) (fun Kq hK => ?_)
                          go_simp
                          exact hK _ _ ⟨rfl, hSW, fun _ h => h⟩
                        | 1, _ =>
                          intro bq aq W hSW hf
                          have v10 : aq.tmps[10]? = some (.pointer (some ⟨g, 0, none⟩)) := (hf.at_base 10 (by kernel_rfl)).trans rfl
                          clear hf
                          refine wpOp_flow rfl (by rfl) (fun Kq hK => ?_)
                          go_simp
                          exact hK _ _ ⟨rfl, hSW, fun _ h => h⟩
                        | 2, _ =>
                          intro bq aq W hSW hf
                          have v100 : aq.tmps[100]? = some (.pointer (some ⟨g, 0, none⟩)) := hf.val 1 100 (by kernel_rfl) rfl
                          clear hf
                          refine wpOp_flow rfl (by rfl) (fun Kq hK => ?_)
                          go_simp
                          exact hK _ _ ⟨rfl, hSW, fun _ h => h⟩
                        | 3, _ =>
                          intro bq aq W hSW hf
                          have v101 : aq.tmps[101]? = some (.pointer (some ⟨g, 0, none⟩)) := hf.val 2 101 (by kernel_rfl) rfl
                          clear hf
                          refine wpOp_flow rfl (by rfl) (fun Kq hK => ?_)
                          go_simp
                          exact hK _ _ ⟨rfl, hSW, fun _ h => h⟩
                        | 4, _ =>
                          intro bq aq W hSW hf
                          have v102 : aq.tmps[102]? = some (.pointer (some ⟨g, 0, none⟩)) := hf.val 3 102 (by kernel_rfl) rfl
                          clear hf
                          refine wpOp_flow rfl (by rfl) (fun Kq hK => ?_)
                          have e0 := hSW.top 0 (.int .u32 (c.a : Int)) (by omega) rfl
                          have e1 := hSW.top 1 (.int .i64 c.l) (by omega) rfl
                          go_simp
                          exact hK _ _ ⟨rfl, hSW, fun _ h => h⟩
                        | 5, _ =>
                          intro bq aq W hSW hf
                          have v0 : aq.tmps[0]? = some (.pointer (some ⟨b, 0, none⟩)) := (hf.at_base 0 (by kernel_rfl)).trans rfl
                          clear hf
                          refine wpOp_flow rfl (by rfl) (fun Kq hK => ?_)
                          go_simp
                          exact hK _ _ ⟨rfl, hSW, fun _ h => h⟩
                        | 6, _ =>
                          intro bq aq W hSW hf
                          have v104 : aq.tmps[104]? = some (.pointer (some ⟨b, 0, none⟩)) := hf.val 5 104 (by kernel_rfl) rfl
                          clear hf
                          refine wpOp_flow rfl (by rfl) (fun Kq hK => ?_)
                          go_simp
                          exact hK _ _ ⟨rfl, hSW, fun _ h => h⟩
                        | 7, _ =>
                          intro bq aq W hSW hf
                          have v105 : aq.tmps[105]? = some (.pointer (some ⟨b, 0, none⟩)) := hf.val 6 105 (by kernel_rfl) rfl
                          clear hf
                          refine wpOp_flow rfl (by rfl) (fun Kq hK => ?_)
                          go_simp
                          exact hK _ _ ⟨rfl, hSW, fun _ h => h⟩
                        | 8, _ =>
                          intro bq aq W hSW hf
                          have v106 : aq.tmps[106]? = some (.pointer (some ⟨b, 0, none⟩)) := hf.val 7 106 (by kernel_rfl) rfl
                          clear hf
                          refine wpOp_flow rfl (by rfl) (fun Kq hK => ?_)
                          obtain ⟨c0, c1, -, -⟩ := HW.out W (hSW.bel)
                          go_simp
                          exact hK _ _ ⟨rfl, hSW, fun _ h => h⟩
                        | 9, _ =>
                          intro bq aq W hSW hf
                          have v103 : aq.tmps[103]? = some (.agg #[.int .u32 (c.a : Int), .int .i64 c.l]) := hf.val 4 103 (by kernel_rfl) rfl
                          have v107 : aq.tmps[107]? = some (.agg #[.int .u32 (q.a : Int), .int .i64 q.l]) := hf.val 8 107 (by kernel_rfl) rfl
                          clear hf
                          refine wpOp_flow rfl (by rfl) (fun Kq hK => ?_)
                          go_simp
                          refine (side_any c q HV.out.2.2.1 _).mono ?_
                          rw [HS2.out]
                          rintro e w19 ⟨rfl, B19⟩
                          exact hK _ _ ⟨rfl, hSW.below B19, fun u hu => ⟨hu.1, fun hb => heap_below B19 (hu.2 hb) (ltOf (hu.2 hb))⟩⟩
                        | 10, _ =>
                          exact absurd rfl hik
                        | 11, _ =>
                          intro bq aq W hSW hf
                          have v99 : aq.tmps[99]? = some (.pointer (some ⟨g, 0, none⟩)) := hf.val 0 99 (by kernel_rfl) rfl
                          clear hf
                          refine wpOp_flow rfl (by rfl) (fun Kq hK => ?_)
                          go_simp
                          exact hK _ _ ⟨rfl, hSW, fun _ h => h⟩
                        | 12, _ =>
                          intro bq aq W hSW hf
                          have v110 : aq.tmps[110]? = some (.pointer (some ⟨g, 0, none⟩)) := hf.val 11 110 (by kernel_rfl) rfl
                          clear hf
                          refine wpOp_flow rfl (by rfl) (fun Kq hK => ?_)
                          go_simp
                          exact hK _ _ ⟨rfl, hSW, fun _ h => h⟩
                        | 13, _ =>
                          intro bq aq W hSW hf
                          have v108 : aq.tmps[108]? = some (.int .i64 (0 : Int)) := hf.val 9 108 (by kernel_rfl) rfl
                          have v111 : aq.tmps[111]? = some (.pointer (some ⟨g, 14, none⟩)) := hf.val 12 111 (by kernel_rfl) rfl
                          clear hf
                          refine wpOp_flow rfl (by rfl) (fun Kq hK => ?_)
                          go_simp
                          exact hK _ _ ⟨rfl, hSW, fun _ h => h⟩
                        | 14, _ =>
                          exact absurd rfl his
                        | kq + 15, hk => exact absurd hk (by first | omega | (intro h; simp at h; omega))
                      · intro aq W hSW hf
                        have v0 : aq.tmps[0]? = some (.pointer (some ⟨b, 0, none⟩)) := (hf.at_base 0 (by kernel_rfl)).trans rfl
                        clear hf
                        refine wpOp_flow rfl (by rfl) (fun Kq hK => ?_)
                        go_simp
                        exact hK _ _ ⟨_, rfl, hSW, rfl, fun h => by cases h⟩
                      · intro u aq W hSW hE hf
                        have v109 : aq.tmps[109]? = some (u) := hf.val 10 109 (by kernel_rfl) rfl
                        have v112 : aq.tmps[112]? = some (.pointer (some ⟨g, 14, none⟩)) := hf.val 13 112 (by kernel_rfl) rfl
                        clear hf
                        refine wpOp_flow rfl (by rfl) (fun Kq hK => ?_)
                        obtain ⟨rfl, -⟩ := hE
                        have hc := hSW.cell rfl
                        have hc1 := heap_setCell_same hc 14 (.pointer (some ⟨b, 0, none⟩))
                        rw [node_left] at hc1
                        have ck := cellOf hc 14 rfl
                        have fk := frozenOf hc 14
                        have hS7 := hSW.set 14 (by omega) (.pointer (some ⟨b, 0, none⟩))
                        have hE7 : PutE (g) (.pointer (some ⟨b, 0, none⟩)) (nodeC c false att0 (.pointer (some ⟨b, 0, none⟩)) (.pointer (some ⟨w.heap.size + 1 + 1, 0, none⟩))).toArray (.pointer (some ⟨b, 0, none⟩)) true (W.setCell ⟨g, 14, none⟩ (.pointer (some ⟨b, 0, none⟩))) := ⟨rfl, fun _ => hc1⟩
                        clear hSW hc hc1
                        go_simp
                        exact hK _ _ ⟨rfl, hS7, hE7⟩
                      · simp only [puts, Act.put, List.setIfInBounds_toArray, List.set_cons_zero, List.set_cons_succ]
                        obtain ⟨rfl, h4⟩ := hE
                        have hc := h4 rfl
                        have hgf := hSW.far
                        have HRES : Hid (PutR wA p v (Tr.node b q hs vv l r) w (.returned (.pointer (some ⟨g, 0, none⟩))) W) := by
                          exact ⟨⟨.node g c false att0 (.node b q hs vv l r) (.node (w.heap.size + 1 + 1) p true v .nil .nil), rfl, ⟨hc, HCC.out, att0_at wA, HX.out.below hSW.bel, ⟨hSW.out HG.out, HV.out.1, HV.out.2.1, trivial, trivial⟩⟩, by rw [HPA.out]; rfl, from_mk (by omega) (from_self _ _) (from_mk (by omega) (from_nil _ _) (from_nil _ _))⟩, hSW.bel⟩
                        clear hSW h4 hc hgf
                        go_wp2
                        go_ret
                        exact HRES.out
                    · have HS2 := hidp hs2
                      have HPA := hidp (show putA (Tr.node b q hs vv l r).ab p v = .node c false att0 (Ab.nil) (Ab.node q hs vv l.ab r.ab) from HPC.out.trans (by rw [HS1.out, hs2]; rfl))
                      have h17d := h17
                      clear hs2 h17
                      refine wp_region_flowU (fun iqv => ([(.pointer (some ⟨g, 0, none⟩) : Value), (.pointer (some ⟨g, 0, none⟩) : Value), (.pointer (some ⟨g, 0, none⟩) : Value), (.pointer (some ⟨g, 0, none⟩) : Value), (.agg #[.int .u32 (c.a : Int), .int .i64 c.l] : Value), (.pointer (some ⟨b, 0, none⟩) : Value), (.pointer (some ⟨b, 0, none⟩) : Value), (.pointer (some ⟨b, 0, none⟩) : Value), (.agg #[.int .u32 (q.a : Int), .int .i64 q.l] : Value), (.int .i64 (1 : Int) : Value), (undef : Value), (.pointer (some ⟨g, 0, none⟩) : Value), (.pointer (some ⟨g, 14, none⟩) : Value), (.pointer (some ⟨g, 15, none⟩) : Value), (undef : Value)] : List Value).getD iqv undef) 10 14 (fun bb W => PutS w p v (g) (nodeC c false att0 nilp (.pointer (some ⟨w.heap.size + 1 + 1, 0, none⟩))).toArray bb W) (fun u bb W => PutE (g) (.pointer (some ⟨b, 0, none⟩)) (nodeC c false att0 nilp (.pointer (some ⟨b, 0, none⟩))).toArray u bb W) (fun u => [(some 99, .pointer (some ⟨g, 0, none⟩)), (some 100, .pointer (some ⟨g, 0, none⟩)), (some 101, .pointer (some ⟨g, 0, none⟩)), (some 102, .pointer (some ⟨g, 0, none⟩)), (some 103, .agg #[.int .u32 (c.a : Int), .int .i64 c.l]), (some 104, .pointer (some ⟨b, 0, none⟩)), (some 105, .pointer (some ⟨b, 0, none⟩)), (some 106, .pointer (some ⟨b, 0, none⟩)), (some 107, .agg #[.int .u32 (q.a : Int), .int .i64 q.l]), (some 108, .int .i64 (1 : Int)), (some 109, u), (some 110, .pointer (some ⟨g, 0, none⟩)), (some 111, .pointer (some ⟨g, 14, none⟩)), (some 112, .pointer (some ⟨g, 15, none⟩)), (none, undef)]) (by kernel_rfl) (by kernel_rfl) (of_decide_eq_true (by kernel_rfl)) (of_decide_eq_true (by kernel_rfl)) (by kernel_rfl) (by kernel_rfl) (by kernel_rfl) h17d (fun iq hiq hik his => ?_) ?_ ?_ (fun u => by kernel_rfl) (fun u W hSW hE => ?_)
                      · match iq, hiq with
                        | 0, _ =>
                          intro bq aq W hSW hf
                          have v10 : aq.tmps[10]? = some (.pointer (some ⟨g, 0, none⟩)) := (hf.at_base 10 (by kernel_rfl)).trans rfl
                          clear hf
                          refine wpOp_flow rfl (by rfl) (fun Kq hK => ?_)
                          go_simp
                          exact hK _ _ ⟨rfl, hSW, fun _ h => h⟩
                        | 1, _ =>
                          intro bq aq W hSW hf
                          have v10 : aq.tmps[10]? = some (.pointer (some ⟨g, 0, none⟩)) := (hf.at_base 10 (by kernel_rfl)).trans rfl
                          clear hf
                          refine wpOp_flow rfl (by rfl) (fun Kq hK => ?_)
                          go_simp
                          exact hK _ _ ⟨rfl, hSW, fun _ h => h⟩
                        | 2, _ =>
                          intro bq aq W hSW hf
                          have v100 : aq.tmps[100]? = some (.pointer (some ⟨g, 0, none⟩)) := hf.val 1 100 (by kernel_rfl) rfl
                          clear hf
                          refine wpOp_flow rfl (by rfl) (fun Kq hK => ?_)
                          go_simp
                          exact hK _ _ ⟨rfl, hSW, fun _ h => h⟩
                        | 3, _ =>
                          intro bq aq W hSW hf
                          have v101 : aq.tmps[101]? = some (.pointer (some ⟨g, 0, none⟩)) := hf.val 2 101 (by kernel_rfl) rfl
                          clear hf
                          refine wpOp_flow rfl (by rfl) (fun Kq hK => ?_)
                          go_simp
                          exact hK _ _ ⟨rfl, hSW, fun _ h => h⟩
                        | 4, _ =>
                          intro bq aq W hSW hf
                          have v102 : aq.tmps[102]? = some (.pointer (some ⟨g, 0, none⟩)) := hf.val 3 102 (by kernel_rfl) rfl
                          clear hf
                          refine wpOp_flow rfl (by rfl) (fun Kq hK => ?_)
                          have e0 := hSW.top 0 (.int .u32 (c.a : Int)) (by omega) rfl
                          have e1 := hSW.top 1 (.int .i64 c.l) (by omega) rfl
                          go_simp
                          exact hK _ _ ⟨rfl, hSW, fun _ h => h⟩
                        | 5, _ =>
                          intro bq aq W hSW hf
                          have v0 : aq.tmps[0]? = some (.pointer (some ⟨b, 0, none⟩)) := (hf.at_base 0 (by kernel_rfl)).trans rfl
                          clear hf
                          refine wpOp_flow rfl (by rfl) (fun Kq hK => ?_)
                          go_simp
                          exact hK _ _ ⟨rfl, hSW, fun _ h => h⟩
                        | 6, _ =>
                          intro bq aq W hSW hf
                          have v104 : aq.tmps[104]? = some (.pointer (some ⟨b, 0, none⟩)) := hf.val 5 104 (by kernel_rfl) rfl
                          clear hf
                          refine wpOp_flow rfl (by rfl) (fun Kq hK => ?_)
                          go_simp
                          exact hK _ _ ⟨rfl, hSW, fun _ h => h⟩
                        | 7, _ =>
                          intro bq aq W hSW hf
                          have v105 : aq.tmps[105]? = some (.pointer (some ⟨b, 0, none⟩)) := hf.val 6 105 (by kernel_rfl) rfl
                          clear hf
                          refine wpOp_flow rfl (by rfl) (fun Kq hK => ?_)
                          go_simp
                          exact hK _ _ ⟨rfl, hSW, fun _ h => h⟩
                        | 8, _ =>
                          intro bq aq W hSW hf
                          have v106 : aq.tmps[106]? = some (.pointer (some ⟨b, 0, none⟩)) := hf.val 7 106 (by kernel_rfl) rfl
                          clear hf
                          refine wpOp_flow rfl (by rfl) (fun Kq hK => ?_)
                          obtain ⟨c0, c1, -, -⟩ := HW.out W (hSW.bel)
                          go_simp
                          exact hK _ _ ⟨rfl, hSW, fun _ h => h⟩
                        | 9, _ =>
                          intro bq aq W hSW hf
                          have v103 : aq.tmps[103]? = some (.agg #[.int .u32 (c.a : Int), .int .i64 c.l]) := hf.val 4 103 (by kernel_rfl) rfl
                          have v107 : aq.tmps[107]? = some (.agg #[.int .u32 (q.a : Int), .int .i64 q.l]) := hf.val 8 107 (by kernel_rfl) rfl
                          clear hf
                          refine wpOp_flow rfl (by rfl) (fun Kq hK => ?_)
                          go_simp
                          refine (side_any c q HV.out.2.2.1 _).mono ?_
                          rw [HS2.out]
                          rintro e w19 ⟨rfl, B19⟩
                          exact hK _ _ ⟨rfl, hSW.below B19, fun u hu => ⟨hu.1, fun hb => heap_below B19 (hu.2 hb) (ltOf (hu.2 hb))⟩⟩
                        | 10, _ =>
                          exact absurd rfl hik
                        | 11, _ =>
                          intro bq aq W hSW hf
                          have v99 : aq.tmps[99]? = some (.pointer (some ⟨g, 0, none⟩)) := hf.val 0 99 (by kernel_rfl) rfl
                          clear hf
                          refine wpOp_flow rfl (by rfl) (fun Kq hK => ?_)
                          go_simp
                          exact hK _ _ ⟨rfl, hSW, fun _ h => h⟩
                        | 12, _ =>
                          intro bq aq W hSW hf
                          have v110 : aq.tmps[110]? = some (.pointer (some ⟨g, 0, none⟩)) := hf.val 11 110 (by kernel_rfl) rfl
                          clear hf
                          refine wpOp_flow rfl (by rfl) (fun Kq hK => ?_)
                          go_simp
                          exact hK _ _ ⟨rfl, hSW, fun _ h => h⟩
                        | 13, _ =>
                          intro bq aq W hSW hf
                          have v108 : aq.tmps[108]? = some (.int .i64 (1 : Int)) := hf.val 9 108 (by kernel_rfl) rfl
                          have v111 : aq.tmps[111]? = some (.pointer (some ⟨g, 14, none⟩)) := hf.val 12 111 (by kernel_rfl) rfl
                          clear hf
                          refine wpOp_flow rfl (by rfl) (fun Kq hK => ?_)
                          go_simp
                          exact hK _ _ ⟨rfl, hSW, fun _ h => h⟩
                        | 14, _ =>
                          exact absurd rfl his
                        | kq + 15, hk => exact absurd hk (by first | omega | (intro h; simp at h; omega))
                      · intro aq W hSW hf
                        have v0 : aq.tmps[0]? = some (.pointer (some ⟨b, 0, none⟩)) := (hf.at_base 0 (by kernel_rfl)).trans rfl
                        clear hf
                        refine wpOp_flow rfl (by rfl) (fun Kq hK => ?_)
                        go_simp
                        exact hK _ _ ⟨_, rfl, hSW, rfl, fun h => by cases h⟩
                      · intro u aq W hSW hE hf
                        have v109 : aq.tmps[109]? = some (u) := hf.val 10 109 (by kernel_rfl) rfl
                        have v112 : aq.tmps[112]? = some (.pointer (some ⟨g, 15, none⟩)) := hf.val 13 112 (by kernel_rfl) rfl
                        clear hf
                        refine wpOp_flow rfl (by rfl) (fun Kq hK => ?_)
                        obtain ⟨rfl, -⟩ := hE
                        have hc := hSW.cell rfl
                        have hc1 := heap_setCell_same hc 15 (.pointer (some ⟨b, 0, none⟩))
                        rw [node_right] at hc1
                        have ck := cellOf hc 15 rfl
                        have fk := frozenOf hc 15
                        have hS7 := hSW.set 15 (by omega) (.pointer (some ⟨b, 0, none⟩))
                        have hE7 : PutE (g) (.pointer (some ⟨b, 0, none⟩)) (nodeC c false att0 nilp (.pointer (some ⟨b, 0, none⟩))).toArray (.pointer (some ⟨b, 0, none⟩)) true (W.setCell ⟨g, 15, none⟩ (.pointer (some ⟨b, 0, none⟩))) := ⟨rfl, fun _ => hc1⟩
                        clear hSW hc hc1
                        go_simp
                        exact hK _ _ ⟨rfl, hS7, hE7⟩
                      · simp only [puts, Act.put, List.setIfInBounds_toArray, List.set_cons_zero, List.set_cons_succ]
                        obtain ⟨rfl, h4⟩ := hE
                        have hc := h4 rfl
                        have hgf := hSW.far
                        have HRES : Hid (PutR wA p v (Tr.node b q hs vv l r) w (.returned (.pointer (some ⟨g, 0, none⟩))) W) := by
                          exact ⟨⟨.node g c false att0 .nil (.node b q hs vv l r), rfl, ⟨hc, HCC.out, att0_at wA, trivial, HX.out.below hSW.bel⟩, by rw [HPA.out]; rfl, from_mk (by omega) (from_nil _ _) (from_self _ _)⟩, hSW.bel⟩
                        clear hSW h4 hc hgf
                        go_wp2
                        go_ret
                        exact HRES.out
end Go.Proofs.Ytnenpfalhbbadaa
