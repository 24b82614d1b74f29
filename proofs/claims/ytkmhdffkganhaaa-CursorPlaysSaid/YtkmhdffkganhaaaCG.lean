/- The table of cursors; find; gone. -/
import Derived.Test.YtkmhdffkganhaaaCI
import Derived.Test.YtkmhdffkganhaaaFrame1
import Derived.Deep.WholeRow
namespace Go.Proofs.Ytkmhdffkganhaaa
open Go.RowKit

theorem all_one (c : Cur) : c.cells.toArray.all (·.oneCell') = true := by
  rw [Array.all_eq_true_iff_forall_mem]
  intro u hu
  exact c.one u (by simpa using hu)
theorem news_at (w : World) (c : Cur) : ∀ j u, c.cells[j]? = some u → (w.alloc (.cells c.cells.toArray 34)).cell? ((⟨w.heap.size, 0, none⟩ : Addr).add j) = some u := by
  intro j u hu
  rw [Addr.add_mid, Nat.zero_add]
  exact cellOf (heap_alloc_new w _) _ (by simpa using hu)
theorem fold16 (c : Cur) : List.foldl (fun (cs : Array Value) (x : Value × Nat) => cs.setIfInBounds x.snd x.fst) #[.int .i64 0, .int .i64 0, .int .i64 0, .int .i64 0, .int .i64 0, .int .u32 0, .int .i64 0, .int .i64 0, .int .i64 0, .string ⟨#[]⟩, .slice none 0 0, .int .i64 0, .bool false, .int .u32 0, .int .i64 0, .int .i64 0] c.cells.zipIdx = c.cells.toArray := by
  unfold Cur.cells
  simp
def zero34 : Value := .agg #[.int .i64 0, .int .i64 0, .int .i64 0, .int .i64 0, .int .i64 0, .int .u32 0, .int .i64 0, .int .i64 0, .int .i64 0, .string ⟨#[]⟩, .slice none 0 0, .int .i64 0, .bool false, .int .u32 0, .int .i64 0, .int .i64 0]
theorem Try.infos34 : (Try.prog.info? 34).map (fun i => (i.zero, i.size, i.bytes)) = some (some zero34, 16, 152) := by kernel_rfl

/-- Block b is a table of the cursors L. -/
structure TabIs (w : World) (base b : Nat) (v : Value) (L : List Cur) (most life next : Int) : Prop where
  blk : w.heap[b]? = some (.cells #[.int .i64 most, .int .i64 life, .int .i64 next, v] 66 (0, 0))
  own : OutC w base v L
  hb : base ≤ b
theorem TabIs.ne {w : World} {base b : Nat} {v : Value} {L : List Cur} {most life next : Int} (h : TabIs w base b v L most life next) : ∀ g, v.ownBlock = some g → g ≠ b := by
  rintro g hg rfl
  obtain ⟨_, c, hc⟩ := ownsRow_block h.own g hg
  have := h.blk; rw [hc] at this; cases this
theorem TabIs.below {w w' : World} {B base b : Nat} {v : Value} {L : List Cur} {most life next : Int} (h : TabIs w base b v L most life next) (hb : Below B w w') (hB : w.heap.size ≤ B) : TabIs w' base b v L most life next :=
  ⟨by rw [hb.block b (Nat.lt_of_lt_of_le (ltOf h.blk) hB)]; exact h.blk, ownsRow_below h.own hb hB, h.hb⟩
theorem TabIs.cells {w wr : World} {base b : Nat} {v : Value} {L : List Cur} {most life next : Int} (h : TabIs w base b v L most life next) (hB : Below w.heap.size w wr) :
    wr.cell? ⟨b, 0, none⟩ = some (.int .i64 most) ∧ wr.cell? ⟨b, 1, none⟩ = some (.int .i64 life) ∧ wr.cell? ⟨b, 2, none⟩ = some (.int .i64 next) ∧ wr.cell? ⟨b, 3, none⟩ = some v ∧ wr.frozen? ⟨b, 2, none⟩ = false ∧ wr.frozen? ⟨b, 3, none⟩ = false :=
  have hbb := heap_below hB h.blk (ltOf h.blk)
  ⟨cellOf hbb 0 rfl, cellOf hbb 1 rfl, cellOf hbb 2 rfl, cellOf hbb 3 rfl, frozenOf hbb 2, frozenOf hbb 3⟩
/-- another row is laid into the table -/
theorem TabIs.put {w wr : World} {base b : Nat} {v o : Value} {L L' : List Cur} {most life next : Int} (h : TabIs w base b v L most life next) (hB : Below w.heap.size w wr) (hO : OutC wr w.heap.size o L') :
    TabIs (wr.setCell ⟨b, 3, none⟩ o) base b o L' most life next ∧ Frame1 b w (wr.setCell ⟨b, 3, none⟩ o) := by
  have hlt := ltOf h.blk
  have hbb := heap_below hB h.blk hlt
  refine ⟨⟨by simpa using heap_setCell_same hbb 3 o, ?_, h.hb⟩, (Frame1.of_below hB).trans (Frame1.setCell _ _ _)⟩
  refine ownsRow_weaken (ownsRow_of_heap hO fun g hg => ?_) (by have := h.hb; omega)
  obtain ⟨hg1, _⟩ := ownsRow_block hO g hg
  exact Below.heap_setCell _ _ _ _ (by rintro rfl; omega)

def isAt (owner id : Int) (c : Cur) : Bool := c.id == id && c.owner == owner
theorem find_nil (owner id : Int) (w : World) : Calls Try.prog 31 #[.pointer none, .int .i64 owner, .int .i64 id] w fun e w' => e = .returned (.int .i64 (-1)) ∧ Below w.heap.size w w' := by
  go_enter Try.func31, Try.ntmps31
  go_wp2
  go_ret
  exact ⟨rfl, by go_grown⟩
set_option maxHeartbeats 1000000 in
theorem find_any (base b : Nat) (v : Value) (L : List Cur) (most life next owner id : Int) (w : World) (h : TabIs w base b v L most life next) (hn : L.length ≤ 1000) :
    Calls Try.prog 31 #[.pointer (some ⟨b, 0, none⟩), .int .i64 owner, .int .i64 id] w fun e w' => e = .returned (.int .i64 (idxC (isAt owner id) L)) ∧ Below w.heap.size w w' := by
  have H := hidp h
  obtain ⟨a, cap, rfl, hR⟩ := h.own.row
  have hB2 : Below w.heap.size w ((w.alloc (.cells #[.int .i64 owner] 3)).alloc (.cells #[.int .i64 id] 3)) := ((Below.refl _ _).alloc (Nat.le_refl _) _).alloc (by simp) _
  obtain ⟨-, -, -, c3, -, -⟩ := h.cells hB2
  have hR2 := hidp (hR.below hB2)
  clear h
  have hmf : ∀ (fn : Fn) (first cap : Array Value) (w : World), (Instr.makeFunc fn first cap).run Try.prog w = .ok (.func fn first cap) w := fun _ _ _ _ => rfl
  have e38 : Hid (∀ args w, (callFunc 38 args).run Try.prog w = .ok (.enter 38 args) w) := fun args w => enters_fn Try.func38 (by kernel_rfl) rfl args w
  have k1 : Hid (((w.alloc (.cells #[.int .i64 owner] 3)).alloc (.cells #[.int .i64 id] 3)).cell? ⟨w.heap.size, 0, none⟩ = some (.int .i64 owner)) := by
    show _ = _
    rw [World.cell?_alloc_past _ _ _ (by simp), World.cell?_alloc_at _ _ _ _ rfl]; rfl
  have k2 : Hid (((w.alloc (.cells #[.int .i64 owner] 3)).alloc (.cells #[.int .i64 id] 3)).cell? ⟨w.heap.size + 1, 0, none⟩ = some (.int .i64 id)) := by
    show _ = _
    rw [World.cell?_alloc_at _ _ _ _ (by simp)]; rfl
  go_enter Try.func31, Try.ntmps31
  go_wp2_with fail
  refine (index_func a cap L 38 #[.pointer (some ⟨w.heap.size + 1, 0, none⟩), .pointer (some ⟨w.heap.size, 0, none⟩)] (isAt owner id) _ hR2.out hn e38.out (fun c W hW => ?_)).mono ?_
  · exact (cl38 c (w.heap.size + 1) w.heap.size id owner W (below_cell hW (Nat.le_refl _) _ _ k2.out) (below_cell hW (Nat.le_refl _) _ _ k1.out))
  rintro e w1 ⟨rfl, hB1⟩
  go_wp2
  go_ret
  exact ⟨rfl, hB2.trans (hB1.mono hB2.size)⟩

theorem gone_nil (f : Value) (w : World) : Calls Try.prog 28 #[.pointer none, f] w fun e w' => e = .returned (.slice none 0 0) ∧ w = w' := by
  go_enter Try.func28, Try.ntmps28
  go_wp2
  go_ret
  exact ⟨rfl, rfl⟩

theorem filter_snoc (p : Cur → Bool) (L : List Cur) (j : Nat) (h : j < L.length) : (L.take (j + 1)).filter p = (L.take j).filter p ++ if p L[j] then [L[j]] else [] := by
  rw [List.take_add_one, List.getElem?_eq_getElem h, List.filter_append]
  congr 1
  cases hp : p L[j] <;> simp [hp]

/-- what the loop of 'gone' carries -/
structure GoneRel (w : World) (p : Cur → Bool) (L : List Cur) (j : Nat) (o r : Value) (wr : World) : Prop where
  outs : OutC wr w.heap.size o ((L.take j).filter p)
  rest : OutC wr w.heap.size r ((L.take j).filter (fun c => !p c))
  sep : ∀ g, o.ownBlock = some g → r.ownBlock ≠ some g
  below : Below w.heap.size w wr
theorem GoneRel.later {w wr w' : World} {p : Cur → Bool} {L : List Cur} {j : Nat} {o r : Value} (h : GoneRel w p L j o r wr) (hB : Below wr.heap.size wr w') : GoneRel w p L j o r w' :=
  ⟨ownsRow_below h.outs hB (Nat.le_refl _), ownsRow_below h.rest hB (Nat.le_refl _), h.sep, h.below.trans (hB.mono h.below.size)⟩
theorem GoneRel.yes {w wr w' : World} {p : Cur → Bool} {L : List Cur} {j : Nat} {o r o' : Value} (h : GoneRel w p L j o r wr) (hj : j < L.length) (hp : p L[j] = true)
    (ho : w'.ownsRow w.heap.size 34 16 o' (((L.take j).filter p).length + 1) (((L.take j).filter p).flatMap Cur.cells ++ L[j].cells)) (hg : wr.grownBy w' o.ownBlock) (hat : ∀ g, o'.ownBlock = some g → o.ownBlock = some g ∨ wr.heap.size ≤ g) :
    GoneRel w p L (j + 1) o' r w' := by
  have e1 := filter_snoc p L j hj
  have e2 := filter_snoc (fun c => !p c) L j hj
  rw [hp, if_pos rfl] at e1
  simp only [hp, Bool.not_true, Bool.false_eq_true, if_false, List.append_nil] at e2
  refine ⟨?_, ?_, fun g hgo hgr => ?_, h.below.grown hg h.below.size fun g hgo => (ownsRow_block h.outs g hgo).1⟩
  · unfold OutC
    rw [e1, List.length_append, List.flatMap_append]
    simpa using ho
  · rw [e2]
    exact ownsRow_of_heap h.rest fun g hgr => by
      obtain ⟨_, c, hc⟩ := ownsRow_block h.rest g hgr
      exact hg.block g (ltOf hc) (fun e => h.sep g e.symm hgr)
  · obtain ⟨_, c, hc⟩ := ownsRow_block h.rest g hgr
    have := ltOf hc
    rcases hat g hgo with e | e
    · exact h.sep g e hgr
    · omega
theorem GoneRel.no {w wr w' : World} {p : Cur → Bool} {L : List Cur} {j : Nat} {o r r' : Value} (h : GoneRel w p L j o r wr) (hj : j < L.length) (hp : p L[j] = false)
    (ho : w'.ownsRow w.heap.size 34 16 r' (((L.take j).filter (fun c => !p c)).length + 1) (((L.take j).filter (fun c => !p c)).flatMap Cur.cells ++ L[j].cells)) (hg : wr.grownBy w' r.ownBlock) (hat : ∀ g, r'.ownBlock = some g → r.ownBlock = some g ∨ wr.heap.size ≤ g) :
    GoneRel w p L (j + 1) o r' w' := by
  have e1 := filter_snoc p L j hj
  have e2 := filter_snoc (fun c => !p c) L j hj
  simp only [hp, Bool.not_false, if_true] at e2
  rw [hp] at e1
  simp only [Bool.false_eq_true, if_false, List.append_nil] at e1
  refine ⟨?_, ?_, fun g hgo hgr => ?_, h.below.grown hg h.below.size fun g hgr => (ownsRow_block h.rest g hgr).1⟩
  · rw [e1]
    exact ownsRow_of_heap h.outs fun g hgo => by
      obtain ⟨_, c, hc⟩ := ownsRow_block h.outs g hgo
      exact hg.block g (ltOf hc) (fun e => h.sep g hgo e.symm)
  · unfold OutC
    rw [e2, List.length_append, List.flatMap_append]
    simpa using ho
  · obtain ⟨_, c, hc⟩ := ownsRow_block h.outs g hgo
    have := ltOf hc
    rcases hat g hgr with e | e
    · exact h.sep g hgo e
    · omega

set_option maxHeartbeats 1000000 in
theorem gone_any' (base b : Nat) (v : Value) (L : List Cur) (most life next : Int) (f : Nat) (caps : Array Value) (p : Cur → Bool) (w : World) (h : TabIs w base b v L most life next) (hn : L.length ≤ 1000)
    (he : ∀ args w, (callFunc f args).run Try.prog w = .ok (.enter f args) w)
    (hf : ∀ (c : Cur) (W : World), Below w.heap.size w W → Calls Try.prog f (#[c.val] ++ caps) W fun e W' => e = .returned (.bool (p c)) ∧ Below W.heap.size W W') :
    Calls Try.prog 28 #[.pointer (some ⟨b, 0, none⟩), .func (.func f) #[] caps] w fun e w' => ∃ o, e = .returned o ∧ OutC w' w.heap.size o (L.filter p) ∧ (∃ v', TabIs w' base b v' (L.filter (fun c => !p c)) most life next ∧ ∀ g, v'.ownBlock = some g → w.heap.size ≤ g) ∧ Frame1 b w w' := by
  have H := hidp h
  obtain ⟨a, cap, rfl, hR⟩ := h.own.row
  obtain ⟨-, -, -, c3, -, -⟩ := h.cells (Below.refl _ _)
  have HR := hidp hR
  obtain ⟨i0, hi0, hz0, hz1, hz2⟩ := info_parts Try.infos34
  clear h hR
  go_enter Try.func28, Try.ntmps28
  go_wp2
  go_loopw [5, 6, 16] (fun o r i wr => ∃ j : Nat, j ≤ L.length ∧ i = .int .i64 j ∧ Hid (GoneRel w p L j o r wr)) (fun _ _ i _ => L.length - (intOf i).toNat)
  case atStart => exact ⟨0, by omega, rfl, ⟨World.ownsRow_nil _ _ _ _, World.ownsRow_nil _ _ _ _, (fun g hg => by cases hg), Below.refl _ _⟩⟩
  case round =>
    obtain ⟨j, hj, rfl, HG⟩ := hrel
    by_cases hlt : j < L.length
    · obtain ⟨g, o, rfl, hc⟩ := HR.out (by omega)
      have hcj := hc j hlt
      have l1 : (j : Int) < (L.length : Int) := by omega
      obtain ⟨c, hc'⟩ : ∃ c, c = L[j] := ⟨_, rfl⟩
      rw [← hc'] at hcj
      have HC := hidp hc'
      have HJ : Hid (wr.rangeAt g (o + j * 16) c.cells) := fun i v hv => below_cell HG.out.below (Nat.le_refl _) _ _ (hcj i v hv)
      have HB := HG.out.below
      clear hc hc' hcj
      have HFA := hidp hf
      clear hf
      go_wp2_with (first
        | (with_reducible refine wpList_load_mid rfl 34 (.tmp 18) rfl g (o + j * 16) rfl c.cells _ HJ.out Try.underlying34 rfl (by rw [Cur.len]; exact Try.info34) ?_)
        | (with_reducible refine wpList_store_row rfl 34 (.tmp 8) (.tmp 19) rfl wr.heap.size c.cells.toArray rfl rfl 34 _ (heap_alloc_new wr _) (by rw [List.size_toArray, Cur.len]; exact Try.info34) rfl (all_one c) ?_
           rw [World.setRow_alloc_new]
           have K1 := hidp (HG.out.later ((Below.refl wr.heap.size wr).alloc (Nat.le_refl _) (.cells c.cells.toArray 34)))
           have B1 := K1.out.below
           have k8 := heap_alloc_new wr (.cells c.cells.toArray 34)
           have hg8 : wr.heap.size < (wr.alloc (.cells c.cells.toArray 34)).heap.size := by simp
           generalize wr.alloc (.cells c.cells.toArray 34) = w1 at K1 B1 k8 hg8 ⊢
           have K8 := hidp k8
           clear k8)
        | (with_reducible refine wpList_load_row rfl 34 (.tmp 8) rfl wr.heap.size rfl 34 c.cells.toArray (0, 0) _ K8.out Try.underlying34 rfl (by rw [List.size_toArray, Cur.len]; exact Try.info34) ?_))
      refine (HFA.out c w1 B1).mono ?_
      rintro e w2 ⟨rfl, hB2⟩
      have K2 := hidp (K1.out.later hB2)
      have K9 := hidp (heap_below hB2 K8.out hg8)
      have K3 := hidp (K2.out.later ((Below.refl w2.heap.size w2).alloc (Nat.le_refl _) (.cells c.cells.toArray 34)))
      have n1 : ((L.take j).filter p).length ≤ 1000 := by have := List.length_filter_le p (L.take j); rw [List.length_take] at this; omega
      have n2 : ((L.take j).filter (fun c => !p c)).length ≤ 1000 := by have := List.length_filter_le (fun c => !p c) (L.take j); rw [List.length_take] at this; omega
      have hlen : c.cells.length = 16 := Cur.len c
      cases hpc : p c with
      | true =>
        go_wp2_with (first
          | (with_reducible refine wpList_load_row rfl 34 (.tmp 8) rfl wr.heap.size rfl 34 c.cells.toArray (0, 0) _ K9.out Try.underlying34 rfl (by rw [List.size_toArray, Cur.len]; exact Try.info34) ?_)
          | (at_builtin
             rw [fold16]
             refine wpList_append_own_at (w2.alloc (.cells c.cells.toArray 34)) rfl (.tmp 23) (.tmp 25) 24 rfl w.heap.size 34 i0 zero34 16 152 Try.underlying24 hi0 hz0 hz1 hz2 rfl (by omega) u5 _ _ rfl K3.out.outs ⟨w2.heap.size, 0, none⟩ 1 1 c.cells rfl (by rw [Cur.len]) (news_at w2 c) c.one (by simp only [maxLen]; omega) (by omega) K3.out.below.size ?_
             intro o4 w4 hown4 hg4 _ hat4
             have K4 := hidp (K3.out.yes hlt (by rw [← HC.out]; exact hpc) (by rw [← HC.out]; exact hown4) hg4 (fun gg hgg => by rcases hat4 with e | e; exact .inl (e ▸ hgg); exact .inr (by rw [e] at hgg; cases hgg; exact Nat.le_refl _)))
             clear hown4 hg4 hat4))
        go_roundw
        case rel => exact ⟨j + 1, by omega, by go_num, K4⟩
        case measure => simp [intOf]; omega
      | false =>
        go_wp2_with (first
          | (with_reducible refine wpList_load_row rfl 34 (.tmp 8) rfl wr.heap.size rfl 34 c.cells.toArray (0, 0) _ K9.out Try.underlying34 rfl (by rw [List.size_toArray, Cur.len]; exact Try.info34) ?_)
          | (at_builtin
             rw [fold16]
             refine wpList_append_own_at (w2.alloc (.cells c.cells.toArray 34)) rfl (.tmp 27) (.tmp 29) 24 rfl w.heap.size 34 i0 zero34 16 152 Try.underlying24 hi0 hz0 hz1 hz2 rfl (by omega) u6 _ _ rfl K3.out.rest ⟨w2.heap.size, 0, none⟩ 1 1 c.cells rfl (by rw [Cur.len]) (news_at w2 c) c.one (by simp only [maxLen]; omega) (by omega) K3.out.below.size ?_
             intro o4 w4 hown4 hg4 _ hat4
             have K4 := hidp (K3.out.no hlt (by rw [← HC.out]; exact hpc) (by rw [← HC.out]; exact hown4) hg4 (fun gg hgg => by rcases hat4 with e | e; exact .inl (e ▸ hgg); exact .inr (by rw [e] at hgg; cases hgg; exact Nat.le_refl _)))
             clear hown4 hg4 hat4))
        go_roundw
        case rel => exact ⟨j + 1, by omega, by go_num, K4⟩
        case measure => simp [intOf]; omega
    · have l1 : ¬ (j : Int) < (L.length : Int) := by omega
      obtain ⟨-, -, -, d3, -, f3⟩ := H.out.cells HG.out.below
      have ht : L.take j = L := List.take_of_length_le (by omega)
      have hO := HG.out.outs
      have hR := HG.out.rest
      rw [ht] at hO hR
      obtain ⟨a5, c5, h5, _⟩ := hO.row
      obtain ⟨a6, c6, h6, _⟩ := hR.row
      have P := hidp (H.out.put HG.out.below hR)
      have HV : Hid (∀ g, u6.ownBlock = some g → w.heap.size ≤ g) := fun g hg => (ownsRow_block hR g hg).1
      have HO := hidp (ownsRow_of_heap hO (w' := wr.setCell ⟨b, 3, none⟩ u6) fun gg hgg => Below.heap_setCell _ _ _ _ (by
        rintro rfl
        obtain ⟨h1, _⟩ := ownsRow_block hO _ hgg
        have := ltOf H.out.blk
        omega))
      subst h5 h6
      clear hO hR
      go_wp2
      go_ret
      exact ⟨_, rfl, HO.out, ⟨_, P.out.1, HV.out⟩, P.out.2⟩
theorem gone_any (base b : Nat) (v : Value) (L : List Cur) (most life next : Int) (f : Nat) (caps : Array Value) (p : Cur → Bool) (w : World) (h : TabIs w base b v L most life next) (hn : L.length ≤ 1000)
    (he : ∀ args w, (callFunc f args).run Try.prog w = .ok (.enter f args) w)
    (hf : ∀ (c : Cur) (W : World), Below w.heap.size w W → Calls Try.prog f (#[c.val] ++ caps) W fun e W' => e = .returned (.bool (p c)) ∧ Below W.heap.size W W') :
    Calls Try.prog 28 #[.pointer (some ⟨b, 0, none⟩), .func (.func f) #[] caps] w fun e w' => ∃ o, e = .returned o ∧ OutC w' w.heap.size o (L.filter p) ∧ (∃ v', TabIs w' base b v' (L.filter (fun c => !p c)) most life next) ∧ Frame1 b w w' :=
  (gone_any' base b v L most life next f caps p w h hn he hf).mono fun _ _ ⟨o, h1, h2, ⟨v', h3, _⟩, h4⟩ => ⟨o, h1, h2, ⟨v', h3⟩, h4⟩
end Go.Proofs.Ytkmhdffkganhaaa
