/- The document's Open. -/
import Derived.Test.YtkmhdffkganhaaaCM
namespace Go.Proofs.Ytkmhdffkganhaaa
open Go.RowKit

theorem DocIs.setLast {w : World} {base d : Nat} {a : Option Addr} {c : Nat} {L : List Cur} {most life last : Int} (h : DocIs w base d a c L most life last) (n : Int) : DocIs (w.setCell ⟨d, 2, none⟩ (.int .i64 n)) base d a c L most life n := by
  have hne : ∀ (k : Nat) (C : Array Value), w.heap[k]? = some (.cells C 53 (0, 0)) → k ≠ d := fun k C hC e => by
    rw [e, h.blk] at hC
    cases hC
  refine ⟨by simpa using heap_setCell_same h.blk 2 (.int .i64 n), fun hp => ?_, fun hp ad had => ?_, h.hb⟩
  · obtain ⟨g, o, e, hr⟩ := h.row hp
    obtain ⟨C, hC⟩ := h.typ hp _ e
    refine ⟨g, o, e, fun i hi j v hv => ?_⟩
    rw [← hr i hi j v hv]
    exact cell_same (Below.heap_setCell _ _ _ _ (hne _ _ hC))
  · obtain ⟨C, hC⟩ := h.typ hp ad had
    exact ⟨C, by rw [Below.heap_setCell _ _ _ _ (hne _ _ hC)]; exact hC⟩
theorem DocIs.far {w : World} {base d q : Nat} {a : Option Addr} {c : Nat} {L : List Cur} {most life last : Int} (h : DocIs w base d a c L most life last) (hq : d ≠ q) (hqa : 0 < L.length → ∀ ad, a = some ad → ad.block ≠ q) (o : Nat) (u : Value) : DocIs (w.setCell ⟨q, o, none⟩ u) base d a c L most life last := by
  refine ⟨by rw [Below.heap_setCell _ _ _ _ hq]; exact h.blk, fun hp => ?_, fun hp ad had => ?_, h.hb⟩
  · obtain ⟨g, o', e, hr⟩ := h.row hp
    have hg := hqa hp _ e
    refine ⟨g, o', e, fun i hi j v hv => ?_⟩
    rw [← hr i hi j v hv]
    exact cell_same (Below.heap_setCell _ _ _ _ hg)
  · obtain ⟨C, hC⟩ := h.typ hp ad had
    exact ⟨C, by rw [Below.heap_setCell _ _ _ _ (hqa hp _ had)]; exact hC⟩
theorem row_flat {w : World} {a : Option Addr} {L : List Cur} (h : RowC w a L) : 0 < L.length → ∃ ad, a = some ad ∧ ∀ j u, (L.flatMap Cur.cells)[j]? = some u → w.cell? (ad.add j) = some u := fun hp => by
  obtain ⟨g, o, e, hr⟩ := h hp
  refine ⟨_, e, fun j u hu => ?_⟩
  have hj : j < L.length * 16 := by rw [← flat_len]; exact (List.getElem?_eq_some_iff.1 hu).1
  have hi : j / 16 < L.length := by omega
  have hk : j % 16 < 16 := Nat.mod_lt _ (by omega)
  have e1 := flat_at L (j / 16) (j % 16) hi hk
  rw [show j / 16 * 16 + j % 16 = j by omega] at e1
  have h1 := hr (j / 16) hi (j % 16) u (by rw [← e1]; exact hu)
  rw [Addr.add_mid, show o + j = o + j / 16 * 16 + j % 16 by omega]
  exact h1
theorem DocIs.putTail {wC w2 : World} {base d : Nat} {a : Option Addr} {c : Nat} {L r : List Cur} {most life last : Int} (h : DocIs wC base d a c L most life last) (hB : Below wC.heap.size wC w2) {b2 g n' cap : Nat} {y : Cur}
    (hO : OutD w2 b2 (.slice (some ⟨g, 0, none⟩) n' cap) (y :: r)) (hcap : r.length + 1 ≤ cap) (a3 : Option Addr) (ha : a3 = if cap = 1 then some ⟨g, 0, none⟩ else some ⟨g, 16, none⟩) :
    DocIs (w2.setCell ⟨d, 3, none⟩ (.slice a3 r.length (cap - 1))) base d a3 (cap - 1) r most life last ∧ RowC (w2.setCell ⟨d, 3, none⟩ (.slice a3 r.length (cap - 1))) (some ⟨g, 0, none⟩) [y] := by
  obtain ⟨a1, c1, e, hr, ht⟩ := hO.row
  cases e
  obtain ⟨C, hC⟩ := ht _ rfl
  have hd := ltOf h.blk
  have hgd : g ≠ d := by
    intro e
    subst e
    rw [show ((⟨g, 0, none⟩ : Addr).block) = g from rfl, heap_below hB h.blk hd] at hC
    cases hC
  have hrow : ∀ i (hi : i < (y :: r).length), (w2.setCell ⟨d, 3, none⟩ (.slice a3 r.length (cap - 1))).rangeAt g (0 + i * 16) (y :: r)[i].cells := by
    obtain ⟨g', o', e, hr⟩ := hr (by simp)
    cases e
    intro i hi j v hv
    rw [← hr i hi j v hv]
    exact farCell _ _ _ _ _ _ (Ne.symm hgd)
  refine ⟨⟨?_, fun hp => ?_, fun hp ad had => ?_, h.hb⟩, fun _ => ⟨g, 0, rfl, fun i hi => ?_⟩⟩
  · have := heap_setCell_same (heap_below hB h.blk hd) 3 (.slice a3 r.length (cap - 1))
    simpa using this
  · rw [if_neg (by omega)] at ha
    refine ⟨g, 16, ha, fun i hi => ?_⟩
    have := hrow (i + 1) (by simp; omega)
    rw [show 0 + (i + 1) * 16 = 16 + i * 16 by omega] at this
    exact this
  · rw [if_neg (by omega)] at ha
    rw [ha] at had
    cases had
    exact ⟨C, by rw [Below.heap_setCell _ _ _ _ hgd]; exact hC⟩
  · have hi0 : i = 0 := by simpa using hi
    subst hi0
    exact hrow 0 (by simp)
/-- what Open brings about -/
def Opened (base d : Nat) (L : List Cur) (most life last : Int) (z : Cur) (o : Value) (w' : World) : Prop := ∃ (a' : Option Addr) (c' : Nat),
  ((L.length : Int) + 1 ≤ most ∧ o = .slice none 0 0 ∧ DocIs w' base d a' c' (L ++ [z]) most life (last + 1)) ∨
  (most < (L.length : Int) + 1 ∧ ∃ (y : Cur) (r : List Cur) (ao : Option Addr) (co : Nat), L ++ [z] = y :: r ∧ o = .slice ao 1 co ∧ RowC w' ao [y] ∧ DocIs w' base d a' c' r most life (last + 1))
set_option maxHeartbeats 4000000 in
theorem doc_open (base d : Nat) (a : Option Addr) (c : Nat) (L : List Cur) (most life last : Int) (x : Cur) (w : World) (h : DocIs w base d a c L most life last) (hn : L.length ≤ 100) (hl : 0 ≤ last ∧ last ≤ 1000000) :
    Calls Try.prog 18 #[.pointer (some ⟨d, 0, none⟩), x.val] w fun e w' => (∃ (o : Value), e = .returned (.tuple #[.int .i64 (last + 1), o]) ∧ Opened base d L most life last (x.fresh (last + 1) x.ca x.cc) o w') ∧ Frame1 d w w' := by
  have hB0 := (Below.refl w.heap.size w).alloc (Nat.le_refl _) (.cells x.cells.toArray 53)
  have HB0 := hidp hB0
  have hd := ltOf h.blk
  have H := hidp h
  have k0 := heap_alloc_new w (.cells x.cells.toArray 53)
  have hs0 := ltOf k0
  have K0 := hidp k0
  have hD := h.below hB0
  have e2 := cellOf hD.blk 2 (v := .int .i64 last) rfl
  have f2 := frozenOf hD.blk 2
  have D := hidp hD
  have hlen : x.cells.length = 16 := Cur.len x
  clear h hB0 k0 hD
  unfold Cur.val
  go_enter Try.func18, Try.ntmps18
  go_upto_region 1 with (fail)
  change Code.wp Try.prog _ _ _ (w.alloc (.cells x.cells.toArray 53))
  generalize w.alloc (.cells x.cells.toArray 53) = w0 at *
  go_upto_region 2 with (fail)
  have hqa : 0 < L.length → ∀ ad, a = some ad → ad.block ≠ w.heap.size := fun hp ad had e => by
    obtain ⟨C, hC⟩ := H.out.typ hp ad had
    have := ltOf hC
    omega
  have hDA := D.out.setLast (last + 1)
  have hKA : (w0.setCell ⟨d, 2, none⟩ (.int .i64 (last + 1))).heap[w.heap.size]? = some (.cells x.cells.toArray 53 (0, 0)) := by
    rw [Below.heap_setCell _ _ _ _ (by show w.heap.size ≠ d; omega)]
    exact K0.out
  have hFA : Frame1 d w (w0.setCell ⟨d, 2, none⟩ (.int .i64 (last + 1))) := (Frame1.of_below HB0.out).trans (Frame1.setCell w0 2 _)
  generalize w0.setCell ⟨d, 2, none⟩ (.int .i64 (last + 1)) = wA at *
  have e2 := cellOf hDA.blk 2 (v := .int .i64 (last + 1)) rfl
  have b0 := cellOf hKA 0 (v := .int .i64 x.id) rfl
  have b15 := cellOf hKA 15 (v := .int .i64 x.age) rfl
  have g0 := frozenOf hKA 0
  have g15 := frozenOf hKA 15
  have HQA := hidp hqa
  have HA := hidp (And.intro hDA (And.intro hKA hFA))
  clear hqa hDA hKA hFA f2
  go_upto_region 3 with (fail)
  have hKB := heap_setCell_same HA.out.2.1 0 (.int .i64 (last + 1))
  have hDB := HA.out.1.far (q := w.heap.size) (by omega) HQA.out 0 (.int .i64 (last + 1))
  have hFB : Frame1 d w (wA.setCell ⟨w.heap.size, 0, none⟩ (.int .i64 (last + 1))) := HA.out.2.2.then ((Below.refl w.heap.size wA).setCell (Nat.le_refl w.heap.size) _)
  generalize wA.setCell ⟨w.heap.size, 0, none⟩ (.int .i64 (last + 1)) = wB at *
  have b15 := cellOf hKB 15 (v := .int .i64 x.age) rfl
  have g15 := frozenOf hKB 15
  have HB := hidp (And.intro hDB (And.intro hKB hFB))
  clear hKB hDB hFB b0 g0 HA
  go_upto_region 4 with (fail)
  have hKC : (wB.setCell ⟨w.heap.size, 15, none⟩ (.int .i64 0)).heap[w.heap.size]? = some (.cells (x.fresh (last + 1) x.ca x.cc).cells.toArray 53 (0, 0)) := heap_setCell_same HB.out.2.1 15 (.int .i64 0)
  have hDC := HB.out.1.far (q := w.heap.size) (by omega) HQA.out 15 (.int .i64 0)
  have hFC : Frame1 d w (wB.setCell ⟨w.heap.size, 15, none⟩ (.int .i64 0)) := HB.out.2.2.then ((Below.refl w.heap.size wB).setCell (Nat.le_refl w.heap.size) _)
  generalize wB.setCell ⟨w.heap.size, 15, none⟩ (.int .i64 0) = wC at *
  obtain ⟨z, hz⟩ : ∃ z, z = x.fresh (last + 1) x.ca x.cc := ⟨_, rfl⟩
  have hzi : z.id = last + 1 := by rw [hz]; rfl
  rw [← hz] at hKC
  have HZE := hidp hz
  have c3 := cellOf hDC.blk 3 (v := .slice a L.length c) rfl
  have hdC := ltOf hDC.blk
  have hqC := ltOf hKC
  have HC := hidp (And.intro hDC (And.intro hKC hFC))
  have HZ := hidp hzi
  clear hKC hDC hFC b15 g15 HB hz hzi e2 HQA H D K0 HB0
  obtain ⟨i0, hi0, hz0, hz1, hz2⟩ := info_parts Try.infos53
  have hz53 : Hid ((Try.prog.info? 53).map (·.size) = some z.cells.toArray.size) := Try.info53c z
  have hlen2 : z.cells.length = 16 := Cur.len z
  go_upto_region 7 with (first
    | (at_builtin
       refine wpList_append_src (w := wC) rfl (.tmp 21) (.tmp 25) 50 rfl wC.heap.size 53 i0 zero34 16 152 Try.underlying50 hi0 hz0 hz1 hz2 rfl (by omega) (.slice none 0 0) 0 [] rfl (World.ownsRow_nil _ _ _ _) a L.length c (L.flatMap Cur.cells) rfl (by rw [flat_len]) (row_flat HC.out.1.row) (flat_one L) (by simp only [maxLen]; omega) (by omega) (Nat.le_refl _) ?_
       intro v1 w1 hown1 hg1 _
       simp only [Nat.zero_add, List.nil_append] at hown1
       have hB1 : Below wC.heap.size wC w1 := (Below.refl _ _).grown hg1 (Nat.le_refl _) (by intro k hk; cases hk)
       have hO1 : OutD w1 wC.heap.size v1 L := hown1
       have H1 := hidp (And.intro hO1 hB1)
       have K1 := hidp (heap_below hB1 HC.out.2.1 hqC)
       clear hown1 hg1 hB1 hO1)
    | (with_reducible refine wpList_load_row rfl 53 (.tmp 3) rfl w.heap.size rfl 53 z.cells.toArray (0, 0) _ K1.out Try.underlying53 rfl hz53.out ?_)
    | (at_builtin
       rw [fold16]
       refine wpList_appC wC w1 rfl (.tmp 27) (.tmp 29) rfl wC.heap.size v1 _ rfl H1.out.1 z rfl (by omega) H1.out.2 H1.out.2.size ?_
       intro v2 w2 h1 h2
       obtain ⟨a2, cap2, e2⟩ := ownsRow_slice h1
       rw [List.length_append] at e2
       simp only [List.length_cons, List.length_nil, Nat.zero_add] at e2
       subst e2
       have H2 := hidp (And.intro h1 h2)
       have k2 := heap_below h2 HC.out.1.blk hdC
       have m0 := cellOf k2 0 (v := .int .i64 most) rfl
       have f3 := frozenOf k2 3
       have m3 := cellOf k2 3 (v := .slice a L.length c) rfl
       have KD := hidp (heap_below h2 HC.out.2.1 hqC)
       clear h1 h2 k2))
  by_cases hmost : most < (L.length : Int) + 1
  · obtain ⟨g, hg, hcap⟩ : ∃ g, a2 = some ⟨g, 0, none⟩ ∧ L.length + 1 ≤ cap2 := by
      obtain ⟨_, ⟨hv, _⟩ | ⟨g, cap, cur, hv, hg, hh, hnc, _⟩⟩ := H2.out.1
      · have := (Value.slice.inj hv).2.1
        omega
      · obtain ⟨e1, -, e3⟩ := Value.slice.inj hv
        exact ⟨g, e1, by rw [e3]; simpa using hnc⟩
    subst hg
    go_upto_region 9 with (fail)
    obtain ⟨a3, ha3⟩ : ∃ a3 : Option Addr, a3 = if cap2 = 1 then some ⟨g, 0, none⟩ else some ⟨g, 16, none⟩ := ⟨_, rfl⟩
    rw [← ha3]
    have n1 := cellOf KD.out 0 (v := .int .i64 z.id) rfl
    rw [HZ.out] at n1
    have hF : Frame1 d w (w2.setCell ⟨d, 3, none⟩ (.slice a3 L.length (cap2 - 1))) := (HC.out.2.2.then (H2.out.2.mono (by omega))).trans (Frame1.setCell w2 3 _)
    have n2 : (w2.setCell ⟨d, 3, none⟩ (.slice a3 L.length (cap2 - 1))).cell? ⟨w.heap.size, 0, none⟩ = some (.int .i64 (last + 1)) := by
      rw [← n1]
      exact farCell _ _ _ _ _ _ (by omega)
    obtain ⟨y, r, hyr⟩ : ∃ y r, L ++ [z] = y :: r := by
      cases L with
      | nil => exact ⟨z, [], rfl⟩
      | cons u v => exact ⟨u, v ++ [z], rfl⟩
    have hrl : r.length = L.length := by have := congrArg List.length hyr; simp at this; omega
    have hT := HC.out.1.putTail H2.out.2 (by have := H2.out.1; rw [hyr] at this; exact this) (by omega) a3 ha3
    rw [hrl] at hT
    have HT := hidp (And.intro hT hF)
    have HY := hidp hyr
    clear hT hF hyr ha3 n1
    generalize w2.setCell ⟨d, 3, none⟩ (.slice a3 L.length (cap2 - 1)) = w3 at *
    go_quiet (fail)
    go_wp2
    go_ret2
    refine ⟨⟨_, rfl, a3, cap2 - 1, .inr ⟨hmost, y, r, _, _, by rw [← HZE.out]; exact HY.out, rfl, HT.out.1.2.below (below_drewN (Below.refl _ _) _), HT.out.1.1.below (below_drewN (Below.refl _ _) _)⟩⟩, HT.out.2.then (below_drewN (Below.refl _ _) _)⟩
  · have n1 := cellOf KD.out 0 (v := .int .i64 z.id) rfl
    rw [HZ.out] at n1
    have hF : Frame1 d w (w2.setCell ⟨d, 3, none⟩ (.slice a2 (L.length + 1) cap2)) := (HC.out.2.2.then (H2.out.2.mono (by omega))).trans (Frame1.setCell w2 3 _)
    have HF := hidp hF
    have n2 : (w2.setCell ⟨d, 3, none⟩ (.slice a2 (L.length + 1) cap2)).cell? ⟨w.heap.size, 0, none⟩ = some (.int .i64 (last + 1)) := by
      rw [← n1]
      exact farCell _ _ _ _ _ _ (by omega)
    clear hF n1
    go_wp2
    go_ret2
    exact ⟨⟨_, rfl, a2, cap2, .inl ⟨by omega, rfl, by rw [← HZE.out]; exact HC.out.1.put H2.out.2 H2.out.1⟩⟩, HF.out⟩
end Go.Proofs.Ytkmhdffkganhaaa
