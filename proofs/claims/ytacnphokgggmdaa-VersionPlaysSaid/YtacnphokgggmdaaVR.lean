/- What the reference's store does: two lists of numbers behind a pointer. -/
import Derived.Test.YtacnphokgggmdaaRows
import Derived.Test.YtacnphokgggmdaaMapI
import Derived.Test.YtacnphokgggmdaaMid2
import Derived.Deep.QuietTactic
import Derived.Deep.Cut
namespace Go.Proofs.Ytacnphokgggmdaa
open Go.RowKit

theorem Try.info3' : (Try.prog.info? 3).map (fun i => (i.zero, i.size, i.bytes)) = some (some (.int .i64 0), 1, 8) := by kernel_rfl

def ofRef : Obj → Bool
  | .cells _ e _ => e == 3 || e == 41
  | _ => false
/-- what a call on the reference's store leaves as it was -/
structure RefFrame (base : Nat) (w w' : World) : Prop where
  os : w'.os = w.os
  tape : w'.tape = w.tape
  output : w'.output = w.output
  size : w.heap.size ≤ w'.heap.size
  block : ∀ k x, w.heap[k]? = some x → (k < base ∨ ofRef x = false) → w'.heap[k]? = some x
theorem RefFrame.refl (base : Nat) (w : World) : RefFrame base w w := ⟨rfl, rfl, rfl, Nat.le_refl _, fun _ _ h _ => h⟩
theorem RefFrame.trans {base : Nat} {a b c : World} (h : RefFrame base a b) (k : RefFrame base b c) : RefFrame base a c :=
  ⟨k.os.trans h.os, k.tape.trans h.tape, k.output.trans h.output, Nat.le_trans h.size k.size, fun i x hi hx => k.block i x (h.block i x hi hx) hx⟩
theorem RefFrame.of_below {base : Nat} {w w' : World} (h : Below w.heap.size w w') : RefFrame base w w' := ⟨h.os, h.tape, h.output, h.size, fun _ _ hk _ => heap_below h hk (ltOf hk)⟩
theorem RefFrame.below {base : Nat} {w w' : World} (h : RefFrame base w w') (hB : base ≤ w.heap.size) : Below base w w' :=
  ⟨h.os, h.tape, h.output, h.size, fun k hk => by
    have hlt : k < w.heap.size := by omega
    rw [h.block k w.heap[k] (Array.getElem?_eq_getElem hlt) (.inl hk), Array.getElem?_eq_getElem hlt]⟩
theorem RefFrame.grown {base : Nat} {w w' : World} {row : Option Nat} (hg : w.grownBy w' row) (hr : ∀ g, row = some g → base ≤ g ∧ ∃ c f, w.heap[g]? = some (.cells c 3 f)) : RefFrame base w w' :=
  ⟨hg.os, hg.tape, hg.output, hg.size, fun k x hk hx => heap_grown hg hk (fun e => by
    obtain ⟨h1, c, f, h2⟩ := hr k e.symm
    rw [h2] at hk; cases hk
    rcases hx with h | h
    · omega
    · simp [ofRef] at h)⟩
theorem RefFrame.setCell {base : Nat} {w : World} {a : Addr} {c : Array Value} {e : TypeId} {f : Nat × Nat} (h : w.heap[a.block]? = some (.cells c e f)) (he : e = 3 ∨ e = 41) (hb : base ≤ a.block) (v : Value) : RefFrame base w (w.setCell a v) :=
  ⟨rfl, rfl, rfl, by simp [World.setCell], fun k x hk hx => heap_setCell_far hk _ _ (fun q => by
    subst q
    rw [h] at hk; cases hk
    rcases hx with h | h
    · omega
    · rcases he with rfl | rfl <;> simp [ofRef] at h)⟩

/-- Block r is the reference's store over the slices v (all versions) and u (their pins). -/
structure RefIs (w : World) (base r : Nat) (v u : Value) (A Q : List Int) : Prop where
  blk : w.heap[r]? = some (.cells #[v, u] 41 (0, 0))
  hbase : base ≤ r
  own : OwnMid w base 3 v A.length (A.map (Value.int .i64))
  ownQ : OwnMid w base 3 u Q.length (Q.map (Value.int .i64))
  sep : ∀ g, v.ownBlock = some g → u.ownBlock ≠ some g
  len : A.length = Q.length
  pos : 0 < A.length

theorem RefIs.of_heap {w w' : World} {base r : Nat} {v u : Value} {A Q : List Int} (h : RefIs w base r v u A Q) (hk : ∀ (k : Nat) (c : Array Value) (e : TypeId), w.heap[k]? = some (Obj.cells c e (0, 0)) → (e = 3 ∨ e = 41) → w'.heap[k]? = w.heap[k]?) : RefIs w' base r v u A Q :=
  ⟨by rw [hk r _ _ h.blk (.inr rfl)]; exact h.blk, h.hbase, h.own.of_heap fun g hg => by obtain ⟨_, c, hc⟩ := h.own.block g hg; exact hk g c 3 hc (.inl rfl),
    h.ownQ.of_heap fun g hg => by obtain ⟨_, c, hc⟩ := h.ownQ.block g hg; exact hk g c 3 hc (.inl rfl), h.sep, h.len, h.pos⟩
theorem RefIs.below {w w' : World} {base r B : Nat} {v u : Value} {A Q : List Int} (h : RefIs w base r v u A Q) (hb : Below B w w') (hB : w.heap.size ≤ B) : RefIs w' base r v u A Q :=
  h.of_heap fun k _ _ hk _ => hb.block k (Nat.lt_of_lt_of_le (ltOf hk) hB)

set_option maxHeartbeats 1000000 in
theorem rnew_any (x : Int) (w : World) : Calls Try.prog 15 #[.int .i64 x] w fun e w' => ∃ r v u, e = .returned (.pointer (some ⟨r, 0, none⟩)) ∧ RefIs w' w.heap.size r v u [x] [0] ∧ Below w.heap.size w w' := by
  go_enter Try.func15, Try.ntmps15
  go_wp2
  go_ret
  refine ⟨_, _, _, rfl, ⟨heap_alloc_top _ _ _ (by simp), by omega, ?_, ?_, ?_, rfl, by simp⟩, by go_grown⟩
  · exact OwnMid.of_owns ⟨rfl, .inr ⟨w.heap.size, 1, #[.int .i64 x], rfl, Nat.le_refl _, heap_alloc_at (heap_alloc_at (heap_alloc_new _ _) _) _, Nat.le_refl _, by decide, rfl, rfl⟩⟩
  · exact OwnMid.of_owns ⟨rfl, .inr ⟨w.heap.size + 1, 1, #[.int .i64 0], rfl, Nat.le_succ _, heap_alloc_at (heap_alloc_top _ _ _ (by simp)) _, Nat.le_refl _, by decide, rfl, rfl⟩⟩
  · intro g hg; simp [Value.ownBlock] at hg ⊢; omega

set_option maxHeartbeats 2000000 in
theorem rcommit_any (base r : Nat) (v u : Value) (A Q : List Int) (x : Int) (w : World) (h : RefIs w base r v u A Q) (hn : A.length ≤ 1000000) :
    Calls Try.prog 16 #[.pointer (some ⟨r, 0, none⟩), .int .i64 x] w fun e w' => ∃ v' u', e = .returned (.int .i64 A.length) ∧ RefIs w' base r v' u' (A ++ [x]) (Q ++ [0]) ∧ RefFrame base w w' := by
  obtain ⟨i0, hi, hz0, hz1, hz2⟩ := info_parts Try.info3'
  have c0 := cellOf h.blk 0 (v := v) rfl
  have c1 := cellOf h.blk 1 (v := u) rfl
  have f0 := frozenOf h.blk 0
  have f1 := frozenOf h.blk 1
  have hlt := ltOf h.blk
  have hbr := h.hbase
  have H := hidp h
  clear h
  go_enter Try.func16, Try.ntmps16
  go_upto_region 2 with ((at_builtin; refine wpList_append1_sharp (v := v) rfl (.tmp 9) (.tmp 11) 25 rfl i0 (.int .i64 0) 8 Try.underlying25 hi hz0 hz1 hz2 rfl rfl H.out.own (.int .i64 x) _ rfl rfl rfl (by omega) (by decide) (by omega) ?_; intro v1 w1 hown1 hgrow1 hsep1; obtain ⟨a1, n1, rfl⟩ := hown1.slice; have B1 := heap_grown hgrow1 H.out.blk (fun e => by obtain ⟨_, c, hc⟩ := H.out.own.block r e.symm; rw [H.out.blk] at hc; cases hc); have c0' := cellOf B1 0 (v := v) rfl; have f0' := frozenOf B1 0; have G1 := hidp (And.intro hown1 (And.intro hgrow1 (And.intro B1 hsep1))); clear hown1 hgrow1 B1 hsep1))
  have hF1 : RefFrame base w (w1.setCell ⟨r, 0, none⟩ (.slice a1 (A.length + 1) n1)) :=
    (RefFrame.grown G1.out.2.1 (fun g hg => by obtain ⟨h1, c, h2⟩ := H.out.own.block g hg; exact ⟨h1, c, _, h2⟩)).trans (RefFrame.setCell (a := ⟨r, 0, none⟩) G1.out.2.2.1 (.inr rfl) hbr _)
  have hB2 : (w1.setCell ⟨r, 0, none⟩ (.slice a1 (A.length + 1) n1)).heap[r]? = some (.cells #[.slice a1 (A.length + 1) n1, u] 41 (0, 0)) := by rw [heap_setCell_same G1.out.2.2.1]; rfl
  have hQ1 : OwnMid w1 base 3 u Q.length (Q.map (Value.int .i64)) := H.out.ownQ.of_heap fun g hg => by
    obtain ⟨_, c, hc⟩ := H.out.ownQ.block g hg
    exact G1.out.2.1.block g (ltOf hc) (fun e => H.out.sep g e.symm hg)
  have hQ2 : OwnMid (w1.setCell ⟨r, 0, none⟩ (.slice a1 (A.length + 1) n1)) base 3 u Q.length (Q.map (Value.int .i64)) := hQ1.of_heap fun g hg => by
    obtain ⟨_, c, hc⟩ := hQ1.block g hg
    exact Below.heap_setCell _ _ _ _ (fun e => by subst e; rw [G1.out.2.2.1] at hc; cases hc)
  have hA2 : OwnMid (w1.setCell ⟨r, 0, none⟩ (.slice a1 (A.length + 1) n1)) base 3 (.slice a1 (A.length + 1) n1) (A.length + 1) (A.map (Value.int .i64) ++ [.int .i64 x]) := G1.out.1.of_heap fun g hg => by
    obtain ⟨_, c, hc⟩ := G1.out.1.block g hg
    exact Below.heap_setCell _ _ _ _ (fun e => by subst e; rw [G1.out.2.2.1] at hc; cases hc)
  have hsep2 : ∀ g, (Value.slice a1 (A.length + 1) n1).ownBlock = some g → u.ownBlock ≠ some g := by
    intro g hg hu
    obtain ⟨_, c, hc⟩ := H.out.ownQ.block g hu
    have hlt' := ltOf hc
    rcases G1.out.2.2.2 g hg with h | h
    · exact H.out.sep g h hu
    · omega
  have hlen := H.out.len
  have hpos := H.out.pos
  have hsz : w.heap.size ≤ (w1.setCell ⟨r, 0, none⟩ (.slice a1 (A.length + 1) n1)).heap.size := hF1.size
  have F := hidp (And.intro hF1 (And.intro hB2 (And.intro hQ2 (And.intro hA2 hsep2))))
  clear hF1 hB2 hQ1 hQ2 hA2 hsep2 G1 H c0 c1 f0 f1 c0' f0'
  generalize w1.setCell ⟨r, 0, none⟩ (.slice a1 (A.length + 1) n1) = w2 at F hsz ⊢
  obtain ⟨hF, hB, hQ, hA, hsep⟩ := F.out
  clear F
  have c0 := cellOf hB 0 (v := .slice a1 (A.length + 1) n1) rfl
  have c1 := cellOf hB 1 (v := u) rfl
  have hlt2 := ltOf hB
  have F := hidp (And.intro hF (And.intro hB (And.intro hQ (And.intro hA hsep))))
  have HL := hidp hlen
  clear hF hB hQ hA hsep hlen
  go_upto_region 3 with ((at_builtin; refine wpList_append1_sharp (v := u) rfl (.tmp 19) (.tmp 20) 25 rfl i0 (.int .i64 0) 8 Try.underlying25 hi hz0 hz1 hz2 rfl rfl F.out.2.2.1 (.int .i64 0) _ rfl rfl rfl (by rw [← HL.out]; omega) (by decide) (by omega) ?_; intro u1 w3 hown3 hgrow3 hsep3; obtain ⟨a3, n3, rfl⟩ := hown3.slice; have B3 := heap_grown hgrow3 F.out.2.1 (fun e => by obtain ⟨_, c, hc⟩ := F.out.2.2.1.block r e.symm; rw [F.out.2.1] at hc; cases hc); have c1' := cellOf B3 1 (v := u) rfl; have f1' := frozenOf B3 1; have G3 := hidp (And.intro hown3 (And.intro hgrow3 (And.intro B3 hsep3))); clear hown3 hgrow3 B3 hsep3))
  obtain ⟨hF, hB, hQ, hA, hsep⟩ := F.out
  obtain ⟨hQ3, hg3, hB3, hs3⟩ := G3.out
  have hF4 : RefFrame base w (w3.setCell ⟨r, 1, none⟩ (.slice a3 (Q.length + 1) n3)) :=
    (hF.trans (RefFrame.grown hg3 (fun g hg => by obtain ⟨h1, c, h2⟩ := hQ.block g hg; exact ⟨h1, c, _, h2⟩))).trans (RefFrame.setCell (a := ⟨r, 1, none⟩) hB3 (.inr rfl) hbr _)
  have hB4 : (w3.setCell ⟨r, 1, none⟩ (.slice a3 (Q.length + 1) n3)).heap[r]? = some (.cells #[.slice a1 (A.length + 1) n1, .slice a3 (Q.length + 1) n3] 41 (0, 0)) := by rw [heap_setCell_same hB3]; rfl
  have hA3 : OwnMid w3 base 3 (.slice a1 (A.length + 1) n1) (A.length + 1) (A.map (Value.int .i64) ++ [.int .i64 x]) := hA.of_heap fun g hg => by
    obtain ⟨_, c, hc⟩ := hA.block g hg
    exact hg3.block g (ltOf hc) (fun e => hsep g hg e.symm)
  have hA4 : OwnMid (w3.setCell ⟨r, 1, none⟩ (.slice a3 (Q.length + 1) n3)) base 3 (.slice a1 (A.length + 1) n1) (A.length + 1) (A.map (Value.int .i64) ++ [.int .i64 x]) := hA3.of_heap fun g hg => by
    obtain ⟨_, c, hc⟩ := hA3.block g hg
    exact Below.heap_setCell _ _ _ _ (fun e => by subst e; rw [hB3] at hc; cases hc)
  have hQ4 : OwnMid (w3.setCell ⟨r, 1, none⟩ (.slice a3 (Q.length + 1) n3)) base 3 (.slice a3 (Q.length + 1) n3) (Q.length + 1) (Q.map (Value.int .i64) ++ [.int .i64 0]) := hQ3.of_heap fun g hg => by
    obtain ⟨_, c, hc⟩ := hQ3.block g hg
    exact Below.heap_setCell _ _ _ _ (fun e => by subst e; rw [hB3] at hc; cases hc)
  have hsep4 : ∀ g, (Value.slice a1 (A.length + 1) n1).ownBlock = some g → (Value.slice a3 (Q.length + 1) n3).ownBlock ≠ some g := by
    intro g hg hu
    obtain ⟨_, c, hc⟩ := hA.block g hg
    have hlt' := ltOf hc
    rcases hs3 g hu with h | h
    · exact hsep g hg h
    · omega
  have R4 : RefIs (w3.setCell ⟨r, 1, none⟩ (.slice a3 (Q.length + 1) n3)) base r (.slice a1 (A.length + 1) n1) (.slice a3 (Q.length + 1) n3) (A ++ [x]) (Q ++ [0]) :=
    ⟨hB4, hbr, by simpa using hA4, by simpa using hQ4, hsep4, by simp [HL.out], by simp⟩
  have R := hidp (And.intro R4 hF4)
  have d0 := cellOf hB4 0 (v := .slice a1 (A.length + 1) n1) rfl
  clear hF hB hQ hA hsep hQ3 hg3 hB3 hs3 hF4 hB4 hA3 hA4 hQ4 hsep4 R4 F G3 c0 c1 c1' f1'
  generalize w3.setCell ⟨r, 1, none⟩ (.slice a3 (Q.length + 1) n3) = w4 at R d0 ⊢
  go_wp2
  go_ret
  exact ⟨_, _, rfl, R.out.1, R.out.2⟩

theorem OwnMid.open {w : World} {base n : Nat} {e : TypeId} {v : Value} {xs : List Value} (h : OwnMid w base e v n xs) (hn : 0 < n) :
    ∃ g off cap cur, v = .slice (some ⟨g, off, none⟩) n cap ∧ base ≤ g ∧ w.heap[g]? = some (.cells cur e (0, 0)) ∧ n ≤ cap ∧ cap ≤ maxLen ∧ off + cap ≤ cur.size ∧ ∀ j u, xs[j]? = some u → cur[off + j]? = some u := by
  rcases h.2 with ⟨_, h2⟩ | h2
  · omega
  · exact h2
/-- A store into an owned row. -/
theorem OwnMid.set {w : World} {base n g off cap : Nat} {e : TypeId} {xs : List Value} (h : OwnMid w base e (.slice (some ⟨g, off, none⟩) n cap) n xs) (k : Nat) (hk : k < n) (y : Value) : OwnMid (w.setCell ⟨g, off + k, none⟩ y) base e (.slice (some ⟨g, off, none⟩) n cap) n (xs.set k y) := by
  obtain ⟨hl, ⟨hv, _⟩ | ⟨g', off', cap', cur, hv, hg, hh, hn, hm, hs, hc⟩⟩ := h
  · cases hv
  · cases hv
    refine ⟨by simp [hl], .inr ⟨g, off, cap, cur.setIfInBounds (off + k) y, rfl, hg, heap_setCell_same hh _ _, hn, hm, by simpa using hs, fun j u hu => ?_⟩⟩
    rw [Array.getElem?_setIfInBounds]
    rw [List.getElem?_set] at hu
    by_cases hkj : k = j
    · subst hkj
      rw [if_pos rfl, if_pos (by omega)] at hu
      rw [if_pos rfl, if_pos (by omega)]
      exact hu
    · rw [if_neg hkj] at hu
      rw [if_neg (by omega)]
      exact hc j u hu
theorem RefIs.setPin {w : World} {base r g off n cap : Nat} {v : Value} {A Q : List Int} (h : RefIs w base r v (.slice (some ⟨g, off, none⟩) n cap) A Q) (hn : n = Q.length) (k : Nat) (hk : k < Q.length) (y : Int) :
    RefIs (w.setCell ⟨g, off + k, none⟩ (.int .i64 y)) base r v (.slice (some ⟨g, off, none⟩) n cap) A (Q.set k y) ∧ RefFrame base w (w.setCell ⟨g, off + k, none⟩ (.int .i64 y)) := by
  subst hn
  obtain ⟨hg, cur, hc⟩ := h.ownQ.block g rfl
  have hrg : r ≠ g := by rintro rfl; rw [h.blk] at hc; cases hc
  refine ⟨⟨heap_setCell_far h.blk _ _ hrg, h.hbase, h.own.of_heap fun g' hg' => ?_, ?_, h.sep, by simp [h.len], h.pos⟩, RefFrame.setCell (a := ⟨g, off + k, none⟩) hc (.inl rfl) hg _⟩
  · exact Below.heap_setCell _ _ _ _ (fun e => h.sep g' hg' (by simp [Value.ownBlock] at e ⊢; exact e.symm))
  · have := h.ownQ.set k hk (.int .i64 y)
    simpa [List.map_set] using this

theorem ris_any (base r : Nat) (v u : Value) (A Q : List Int) (k : Int) (w : World) (h : RefIs w base r v u A Q) :
    Calls Try.prog 30 #[.pointer (some ⟨r, 0, none⟩), .int .i64 k] w fun e w' => e = .returned (.bool (decide (0 ≤ k) && decide (k < A.length))) ∧ w = w' := by
  obtain ⟨a, cap, rfl⟩ := h.own.slice
  have c0 := cellOf h.blk 0 (v := .slice a A.length cap) rfl
  clear h
  by_cases h0 : 0 ≤ k
  · go_enter Try.func30, Try.ntmps30
    go_wp2
    go_ret
    simp [h0]
  · go_enter Try.func30, Try.ntmps30
    go_wp2
    go_ret
    have : decide (0 ≤ k) = false := by simp; omega
    simp [this]

set_option maxHeartbeats 1000000 in
theorem rpin_any (base r : Nat) (v u : Value) (A Q : List Int) (w : World) (h : RefIs w base r v u A Q) (hn : A.length ≤ 1000000) (hq : ∀ q ∈ Q, 0 ≤ q ∧ q ≤ 1000000) :
    Calls Try.prog 17 #[.pointer (some ⟨r, 0, none⟩)] w fun e w' => e = .returned (.int .i64 ((A.length : Int) - 1)) ∧ RefIs w' base r v u A (Q.set (A.length - 1) (Q.getD (A.length - 1) 0 + 1)) ∧ RefFrame base w w' := by
  obtain ⟨a, cap, rfl⟩ := h.own.slice
  obtain ⟨g, off, capq, cur, rfl, hg, hh, hnc, hm, hs, hc⟩ := h.ownQ.open (by rw [← h.len]; exact h.pos)
  have hlen := h.len
  have hpos := h.pos
  obtain ⟨m, hm1⟩ : ∃ m, A.length = m + 1 := ⟨A.length - 1, by omega⟩
  have hm2 : Q.length = m + 1 := by omega
  have hmq : m < Q.length := by omega
  have hqm := hq (Q.getD m 0) (by rw [List.getD_eq_getElem?_getD, List.getElem?_eq_getElem hmq]; exact List.getElem_mem hmq)
  have hcell := hc m (.int .i64 (Q.getD m 0)) (by simp [List.getD, hmq])
  have hR := h
  rw [hm1] at h hn
  rw [hm2] at h
  have c0 := cellOf h.blk 0 (v := .slice a (m + 1) cap) rfl
  obtain ⟨q, hqe⟩ : ∃ q, q = Q.getD m 0 := ⟨_, rfl⟩
  rw [← hqe] at hqm hcell
  have HQ := hidp hqe
  have H := hidp (And.intro hR (And.intro hm1 (And.intro hm2 (And.intro hh hcell))))
  clear hR h hm1 hm2 hlen hpos hmq hc hh hcell hqe
  go_enter Try.func17, Try.ntmps17
  go_wp2
  refine region_tail 14 (by kernel_rfl) (by kernel_rfl) ?_
  intro D hD
  obtain ⟨hR, hm1, hm2, hh, hcell⟩ := H.out
  have RD : RefIs D base r (.slice a A.length cap) (.slice (some ⟨g, off, none⟩) Q.length capq) A Q := by rw [← hD]; exact hR.below (B := w.heap.size) ((Below.refl _ _).drew) (Nat.le_refl _)
  have hF : RefFrame base w D := by rw [← hD]; exact RefFrame.of_below ((Below.refl _ _).drew)
  have hhD : D.heap[g]? = some (.cells cur 3 (0, 0)) := by rw [← hD]; exact hh
  have dq := cellOf hhD (off + m) hcell
  have fq := frozenOf hhD (off + m)
  have c1 := cellOf RD.blk 1 (v := .slice (some ⟨g, off, none⟩) Q.length capq) rfl
  rw [hm2] at c1
  have HD := hidp (And.intro RD (And.intro hF (And.intro hm1 hm2)))
  have l1 : (0 : Int) ≤ (m : Int) := by omega
  have l2 : (m : Int) < ((m + 1 : Nat) : Int) := by omega
  have l3 : (m : Int) < (m : Int) + 1 := by omega
  have hw : IntKind.i64.wrap (q + 1) = q + 1 := IntWalk.i64_in _ (by omega)
  clear hD hR hm1 hm2 hh hcell RD hF hhD H c0
  simp only [List.take_succ_cons, List.take_zero, List.drop_succ_cons, List.drop_zero]
  repeat still_step
  refine wpStill_nil ?_
  go_wp2
  go_ret
  obtain ⟨RD, hF, hm1, hm2⟩ := HD.out
  obtain ⟨R2, hF2⟩ := RD.setPin rfl m (by omega) (q + 1)
  refine ⟨?_, ?_, hF.trans hF2⟩
  · rw [hm1]; exact congrArg (fun z => Ending.returned (Value.int .i64 z)) (by omega)
  · rw [show A.length - 1 = m by omega, ← HQ.out]
    exact R2

/-- is version j, of n, live? -/
def liveAt (n : Nat) (Q : List Int) (j : Nat) : Bool := Q.getD j 0 != 0 || j + 1 == n
def rAt (A Q : List Int) (k : Int) : Int × Bool := if 0 ≤ k ∧ k < A.length ∧ liveAt A.length Q k.toNat = true then (A.getD k.toNat 0, true) else (0, false)

/-- what is read of the two lists at place j -/
theorem RefIs.read {w : World} {base r : Nat} {v u : Value} {A Q : List Int} (h : RefIs w base r v u A Q) (j : Nat) (hj : j < A.length) :
    ∃ g o c g' o' c', v = .slice (some ⟨g, o, none⟩) A.length c ∧ u = .slice (some ⟨g', o', none⟩) A.length c' ∧ w.cell? ⟨g, o + j, none⟩ = some (.int .i64 (A.getD j 0)) ∧ w.cell? ⟨g', o' + j, none⟩ = some (.int .i64 (Q.getD j 0)) ∧ w.frozen? ⟨g', o' + j, none⟩ = false := by
  have hlen := h.len
  obtain ⟨g, o, c, cur, rfl, _, hh, _, _, _, hc⟩ := h.own.open h.pos
  obtain ⟨g', o', c', cur', rfl, _, hh', _, _, _, hc'⟩ := h.ownQ.open (by rw [← h.len]; exact h.pos)
  refine ⟨g, o, c, g', o', c', rfl, by rw [h.len], cellOf hh _ (hc j _ ?_), cellOf hh' _ (hc' j _ ?_), frozenOf hh' _⟩
  · simp [List.getD, hj]
  · simp [List.getD, show j < Q.length by omega]

set_option maxHeartbeats 1000000 in
theorem rat_any (base r : Nat) (v u : Value) (A Q : List Int) (k : Int) (w : World) (h : RefIs w base r v u A Q) (hn : A.length ≤ 1000000) :
    Calls Try.prog 19 #[.pointer (some ⟨r, 0, none⟩), .int .i64 k] w fun e w' => e = .returned (.tuple #[.int .i64 (rAt A Q k).1, .bool (rAt A Q k).2]) ∧ w = w' := by
  by_cases hin : 0 ≤ k ∧ k < A.length
  · obtain ⟨h0, h1⟩ := hin
    obtain ⟨j, rfl⟩ := Int.eq_ofNat_of_zero_le h0
    have hj : j < A.length := by omega
    have hR : Hid (rAt A Q (j : Int) = if liveAt A.length Q j = true then (A.getD j 0, true) else (0, false)) := by
      show _ = _
      unfold rAt
      rw [Int.toNat_natCast]
      by_cases hl : liveAt A.length Q j = true
      · rw [if_pos ⟨h0, h1, hl⟩, if_pos hl]
      · rw [if_neg (fun e => hl e.2.2), if_neg hl]
    obtain ⟨g, o, c, g', o', c', rfl, rfl, ca, cq, _⟩ := h.read j hj
    have c0 := cellOf h.blk 0 (v := .slice (some ⟨g, o, none⟩) A.length c) rfl
    have c1 := cellOf h.blk 1 (v := .slice (some ⟨g', o', none⟩) A.length c') rfl
    have H := hidp h
    clear h
    have hb : (decide (0 ≤ (j : Int)) && decide ((j : Int) < A.length)) = true := by simp [hj]
    have HB := hidp hb
    clear hb
    obtain ⟨q, hqe⟩ : ∃ q, q = Q.getD j 0 := ⟨_, rfl⟩
    obtain ⟨y, hye⟩ : ∃ y, y = A.getD j 0 := ⟨_, rfl⟩
    rw [← hqe] at cq
    rw [← hye] at ca
    have HQ := hidp hqe
    have HY := hidp hye
    clear hqe hye
    by_cases hq0 : q = 0
    · by_cases hl : j + 1 = A.length
      · have hv : Hid (liveAt A.length Q j = true) := by show _ = _; unfold liveAt; simp [hl]
        have hne : ((j : Int) != (A.length : Int) - 1) = false := by simp; omega
        subst hq0
        clear hl
        go_enter Try.func19, Try.ntmps19
        go_wp2_with fail
        refine (ris_any base r _ _ A Q j _ H.out).mono ?_
        rintro e w' ⟨rfl, rfl⟩
        rw [HB.out]
        go_wp2
        go_ret2
        rw [hR.out, if_pos hv.out, ← HY.out]
        exact ⟨rfl, rfl⟩
      · have hv : Hid (¬ liveAt A.length Q j = true) := by show ¬ _; unfold liveAt; rw [← HQ.out, hq0]; simp; omega
        have hne : ((j : Int) != (A.length : Int) - 1) = true := by simp; omega
        subst hq0
        clear hl
        go_enter Try.func19, Try.ntmps19
        go_wp2_with fail
        refine (ris_any base r _ _ A Q j _ H.out).mono ?_
        rintro e w' ⟨rfl, rfl⟩
        rw [HB.out]
        go_wp2
        go_ret2
        rw [hR.out, if_neg hv.out]
        exact ⟨rfl, rfl⟩
    · have hv : Hid (liveAt A.length Q j = true) := by show _ = _; unfold liveAt; rw [← HQ.out]; simp [hq0]
      have hne : (q == 0) = false := by simpa using hq0
      go_enter Try.func19, Try.ntmps19
      go_wp2_with fail
      refine (ris_any base r _ _ A Q j _ H.out).mono ?_
      rintro e w' ⟨rfl, rfl⟩
      rw [HB.out]
      go_wp2
      go_ret2
      rw [hR.out, if_pos hv.out, ← HY.out]
      exact ⟨rfl, rfl⟩
  · have hR : Hid (rAt A Q k = (0, false)) := by show _ = _; unfold rAt; rw [if_neg (fun e => hin ⟨e.1, e.2.1⟩)]
    have hb : (decide (0 ≤ k) && decide (k < A.length)) = false := by
      rw [Bool.and_eq_false_iff]; simp only [decide_eq_false_iff_not]; omega
    have H := hidp h
    clear h
    go_enter Try.func19, Try.ntmps19
    go_wp2_with fail
    refine (ris_any base r v u A Q k _ H.out).mono ?_
    rintro e w' ⟨rfl, rfl⟩
    rw [hb]
    go_wp2
    go_ret2
    rw [hR.out]
    exact ⟨rfl, rfl⟩

def rCnt (n : Nat) (Q : List Int) (j : Nat) : Nat := ((List.range j).filter (liveAt n Q)).length
theorem rCnt_succ (n : Nat) (Q : List Int) (j : Nat) : rCnt n Q (j + 1) = rCnt n Q j + if liveAt n Q j then 1 else 0 := by
  unfold rCnt
  rw [List.range_succ, List.filter_append, List.length_append]
  by_cases h : liveAt n Q j = true <;> simp [h]
theorem rCnt_le (n : Nat) (Q : List Int) (j : Nat) : rCnt n Q j ≤ j := by
  unfold rCnt
  have := List.length_filter_le (liveAt n Q) (List.range j)
  simpa using this

set_option maxHeartbeats 1000000 in
theorem rlive_any (base r : Nat) (v u : Value) (A Q : List Int) (w : World) (h : RefIs w base r v u A Q) (hn : A.length ≤ 1000000) :
    Calls Try.prog 21 #[.pointer (some ⟨r, 0, none⟩)] w fun e w' => e = .returned (.int .i64 (rCnt A.length Q A.length)) ∧ w = w' := by
  obtain ⟨a, cap, rfl⟩ := h.own.slice
  have c0 := cellOf h.blk 0 (v := .slice a A.length cap) rfl
  have H := hidp h
  clear h
  go_enter Try.func21, Try.ntmps21
  go_wp2
  go_loop [3, 4] (fun c i => ∃ j : Nat, j ≤ A.length ∧ i = .int .i64 j ∧ c = .int .i64 (rCnt A.length Q j)) (fun _ i => A.length - (intOf i).toNat)
  case atStart => exact ⟨0, by omega, rfl, rfl⟩
  case round =>
    obtain ⟨j, hj, rfl, rfl⟩ := hrel
    have hle := rCnt_le A.length Q j
    by_cases hlt : j < A.length
    · have l1 : (j : Int) < (A.length : Int) := by omega
      have hs := rCnt_succ A.length Q j
      have HS := hidp hs
      clear hs
      by_cases hl : liveAt A.length Q j = true
      · have hR : rAt A Q j = (A.getD j 0, true) := by unfold rAt; rw [Int.toNat_natCast, if_pos ⟨by omega, l1, hl⟩]
        have HR := hidp hR
        have HL := hidp hl
        clear hR hl
        go_wp2_with fail
        refine (rat_any base r _ _ A Q j _ H.out hn).mono ?_
        rintro e w' ⟨rfl, rfl⟩
        rw [HR.out]
        go_wp2
        go_round
        case rel => exact ⟨j + 1, by omega, by go_num, by rw [HS.out, if_pos HL.out]; go_num⟩
        case measure => simp [intOf]; omega
      · have hR : rAt A Q j = (0, false) := by unfold rAt; rw [Int.toNat_natCast, if_neg (fun e => hl e.2.2)]
        have HR := hidp hR
        have HL := hidp hl
        clear hR hl
        go_wp2_with fail
        refine (rat_any base r _ _ A Q j _ H.out hn).mono ?_
        rintro e w' ⟨rfl, rfl⟩
        rw [HR.out]
        go_wp2
        go_round
        case rel => exact ⟨j + 1, by omega, by go_num, by rw [HS.out, if_neg HL.out]; go_num⟩
        case measure => simp [intOf]; omega
    · obtain rfl : j = A.length := by omega
      go_wp2
      go_ret
      exact ⟨rfl, rfl⟩

set_option maxHeartbeats 1000000 in
theorem rrelease_no (base r : Nat) (v u : Value) (A Q : List Int) (k : Int) (w : World) (h : RefIs w base r v u A Q) (hno : ¬ (0 ≤ k ∧ k < A.length) ∨ Q.getD k.toNat 0 = 0) :
    Calls Try.prog 18 #[.pointer (some ⟨r, 0, none⟩), .int .i64 k] w fun e w' => e = .returned (.bool false) ∧ w = w' := by
  by_cases hin : 0 ≤ k ∧ k < A.length
  · obtain ⟨h0, h1⟩ := hin
    obtain ⟨j, rfl⟩ := Int.eq_ofNat_of_zero_le h0
    have hj : j < A.length := by omega
    have hq : Q.getD j 0 = 0 := by
      rcases hno with hno | hno
      · exact absurd ⟨h0, h1⟩ hno
      · simpa using hno
    obtain ⟨g, o, c, g', o', c', rfl, rfl, ca, cq, _⟩ := h.read j hj
    rw [hq] at cq
    have c1 := cellOf h.blk 1 (v := .slice (some ⟨g', o', none⟩) A.length c') rfl
    have H := hidp h
    clear h hno hq ca
    have hb : (decide (0 ≤ (j : Int)) && decide ((j : Int) < A.length)) = true := by simp [hj]
    have HB := hidp hb
    clear hb
    go_enter Try.func18, Try.ntmps18
    go_wp2_with fail
    refine (ris_any base r _ _ A Q j _ H.out).mono ?_
    rintro e w' ⟨rfl, rfl⟩
    rw [HB.out]
    go_wp2
    go_ret
    exact ⟨rfl, rfl⟩
  · have hb : (decide (0 ≤ k) && decide (k < A.length)) = false := by
      rw [Bool.and_eq_false_iff]; simp only [decide_eq_false_iff_not]; omega
    have H := hidp h
    clear h hno
    go_enter Try.func18, Try.ntmps18
    go_wp2_with fail
    refine (ris_any base r v u A Q k _ H.out).mono ?_
    rintro e w' ⟨rfl, rfl⟩
    rw [hb]
    go_wp2
    go_ret
    exact ⟨rfl, rfl⟩

set_option maxHeartbeats 1000000 in
theorem rrelease_yes (base r : Nat) (v u : Value) (A Q : List Int) (j : Nat) (w : World) (h : RefIs w base r v u A Q) (hj : j < A.length) (hq0 : 0 < Q.getD j 0) (hq1 : Q.getD j 0 ≤ 1000000) :
    Calls Try.prog 18 #[.pointer (some ⟨r, 0, none⟩), .int .i64 j] w fun e w' => e = .returned (.bool true) ∧ RefIs w' base r v u A (Q.set j (Q.getD j 0 - 1)) ∧ RefFrame base w w' := by
  obtain ⟨g, o, c, g', o', c', rfl, rfl, ca, cq, _⟩ := h.read j hj
  have c1 := cellOf h.blk 1 (v := .slice (some ⟨g', o', none⟩) A.length c') rfl
  have H := hidp h
  have hb : (decide (0 ≤ (j : Int)) && decide ((j : Int) < A.length)) = true := by simp [hj]
  have HB := hidp hb
  obtain ⟨q, hqe⟩ : ∃ q, q = Q.getD j 0 := ⟨_, rfl⟩
  rw [← hqe] at cq hq0 hq1 ⊢
  have HQ := hidp hqe
  clear hqe h hb ca
  have hne : (q == 0) = false := by simp; omega
  go_enter Try.func18, Try.ntmps18
  go_wp2_with fail
  refine (ris_any base r _ _ A Q j _ H.out).mono ?_
  rintro e w' ⟨rfl, rfl⟩
  rw [HB.out]
  go_wp2
  refine region_tail 14 (by kernel_rfl) (by kernel_rfl) ?_
  intro D hD
  have RD : RefIs D base r (.slice (some ⟨g, o, none⟩) A.length c) (.slice (some ⟨g', o', none⟩) A.length c') A Q := by rw [← hD]; exact H.out.below (B := w.heap.size) ((Below.refl _ _).drew) (Nat.le_refl _)
  have hF : RefFrame base w D := by rw [← hD]; exact RefFrame.of_below ((Below.refl _ _).drew)
  have dq : D.cell? ⟨g', o' + j, none⟩ = some (.int .i64 q) := by rw [← hD]; exact cq
  clear hD cq c1
  obtain ⟨g2, o2, c2, g2', o2', c2', e1, e2, _, _, fq⟩ := RD.read j hj
  cases e2
  have c1 := cellOf RD.blk 1 (v := .slice (some ⟨g', o', none⟩) A.length c') rfl
  have HD := hidp (And.intro RD hF)
  have l1 : (0 : Int) ≤ (j : Int) := by omega
  have l2 : (j : Int) < (A.length : Int) := by omega
  have hw : IntKind.i64.wrap (q - 1) = q - 1 := IntWalk.i64_in _ (by omega)
  clear RD hF e1
  simp only [List.take_succ_cons, List.take_zero, List.drop_succ_cons, List.drop_zero]
  repeat still_step
  refine wpStill_nil ?_
  go_wp2
  go_ret
  obtain ⟨RD, hF⟩ := HD.out
  obtain ⟨R2, hF2⟩ := RD.setPin RD.len j (by rw [← RD.len]; exact hj) (q - 1)
  exact ⟨rfl, R2, hF.trans hF2⟩
end Go.Proofs.Ytacnphokgggmdaa
