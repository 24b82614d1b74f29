/- differ: which prefixes are told of otherwise. -/
import Derived.Test.YtnenpfalhbbadaaQD
import Derived.Test.YtnenpfalhbbadaaPX
import Derived.Test.YtnenpfalhbbadaaPU
import Derived.Lib.OwnBridge
namespace Go.Proofs.Ytnenpfalhbbadaa
open Go.RowKit
open Go.Sort (HoldsK putRowK flatK get_flatK size_flatK holdsK_ahead holdsK_putRowK)
open Go.Lib (compactUpTo keeps)

theorem below_grow {B : Nat} {w0 w : World} (h : Below B w0 w) (hB : B ≤ w.heap.size) (os : Array Obj) : Below B w0 (Go.Sort.grow w os) :=
  ⟨h.os, h.tape, h.output, by simp only [Go.Sort.grow, Array.size_append]; have := h.size; omega, fun k hk => by
    rw [← h.block k hk]
    simp only [Go.Sort.grow]
    rw [Array.getElem?_append_left (by omega)]⟩
theorem holdsK_own {w : World} {base g n cap : Nat} {l : List Pf} (h : w.ownsRow base 44 2 (.slice (some ⟨g, 0, none⟩) n cap) n (l.flatMap Pf.cells)) : base ≤ g ∧ g < w.heap.size ∧ n ≤ cap ∧ cap ≤ maxLen ∧ HoldsK Pf.cells 2 w g 0 l.toArray := by
  rcases h.2 with ⟨e0, _⟩ | ⟨g', cap', cur, e0, hb, hg, hn, hm, hs, ht⟩
  · cases e0
  injection e0 with e1 _ e3
  injection e1 with e1
  injection e1 with e1
  subst e1; subst e3
  have hl := h.1
  rw [pfs_len] at hl
  refine ⟨hb, ltOf hg, hn, hm, fun j hj => ⟨?_, frozenOf hg _⟩⟩
  rw [size_flatK] at hj
  rw [get_flatK _ _ _ _ hj, Nat.zero_add]
  have hj' : j < l.length * 2 := by simpa using hj
  refine cellOf hg j ?_
  have h2 : (cur.toList.take (n * 2))[j]? = (l.flatMap Pf.cells)[j]? := by rw [ht]
  rw [List.getElem?_take, if_pos (by omega), Array.getElem?_toList] at h2
  rw [h2]
  have hd : j / 2 < l.length := by omega
  have := flat_get Pf.cells 2 Pf.clen l (j / 2) (j % 2) hd (by omega)
  rw [show j / 2 * 2 + j % 2 = j by omega] at this
  rw [this]
  have e2 : l.toArray[j / 2]! = l[j / 2] := by simp [hd]
  rw [e2]
  have h3 : j % 2 < l[j / 2].cells.length := by rw [Pf.clen]; omega
  rw [List.getElem?_eq_getElem h3]
  simp [h3]
theorem holdsK_row {w : World} {g : Nat} {l : List Pf} (z : List Pf) (h : HoldsK Pf.cells 2 w g 0 (l ++ z).toArray) : w.rangeAt g 0 (l.flatMap Pf.cells) := fun j v hv => by
  have hj := (List.getElem?_eq_some_iff.1 hv).1
  rw [pfs_len] at hj
  have := (h j (by rw [size_flatK]; simp; omega)).1
  rw [get_flatK _ _ _ _ (by simp; omega)] at this
  rw [this]
  have hd : j / 2 < l.length := by omega
  have h4 := flat_get Pf.cells 2 Pf.clen l (j / 2) (j % 2) hd (by omega)
  rw [show j / 2 * 2 + j % 2 = j by omega, hv] at h4
  have e2 : (l ++ z).toArray[j / 2]! = l[j / 2] := by
    have : j / 2 < (l ++ z).length := by simp; omega
    rw [getElem!_pos _ _ (by simpa using this)]
    simp [List.getElem_append_left hd]
  rw [e2]
  have h3 : j % 2 < l[j / 2].cells.length := by rw [Pf.clen]; omega
  rw [List.getElem?_eq_getElem h3] at h4
  simp at h4
  simp [h3, h4]
/-- what is left of a list: each once, in order -/
def diffL (f : Pf → Bool) (l : List Pf) : List Pf := compactUpTo (sortP (l.filter f)).toArray (sortP (l.filter f)).length
theorem compact_mem {d : Array Pf} {n : Nat} (hn : n ≤ d.size) {x : Pf} (h : x ∈ compactUpTo d n) : x ∈ d.toList := by
  unfold compactUpTo at h
  obtain ⟨i, hi, rfl⟩ := List.mem_map.1 h
  have := List.mem_range.1 (List.mem_filter.1 hi).1
  have hlt : i < d.size := by omega
  simp [hlt]
theorem sortP_mem {l : List Pf} {x : Pf} : x ∈ sortP l ↔ x ∈ l := List.mem_mergeSort
theorem sortP_len (l : List Pf) : (sortP l).length = l.length := List.length_mergeSort _
theorem diffL_mem {f : Pf → Bool} {l : List Pf} {x : Pf} (h : x ∈ diffL f l) : x ∈ l ∧ f x = true := by
  have := compact_mem (by simp) h
  simp only at this
  exact List.mem_filter.1 (sortP_mem.1 this)
set_option maxHeartbeats 1000000 in
theorem compact_none (a : Option Addr) (c : Nat) (w : World) : Calls Try.prog 48 #[.slice a 0 c] w fun e w' => e = .returned (.slice a 0 c) ∧ w' = w := by
  go_enter Try.func48, Try.ntmps48
  go_wp2
  go_ret
  exact ⟨rfl, rfl⟩
def DiffE (f : Pf → Bool) (l : List Pf) (e : Ending) (W : World) : Prop := ∃ (a : Option Addr) (c : Nat), e = .returned (.slice a (diffL f l).length c) ∧ PfsV W a (diffL f l).length (diffL f l) ∧ (diffL f l).length ≤ c ∧ c ≤ maxLen
/-- behind the sort -/
structure SortedW (f : Pf → Bool) (l : List Pf) (base : Nat) (w0 : World) (g n cap : Nat) (W : World) : Prop where
  bel : Below base w0 W
  base : base ≤ g
  len : (sortP (l.filter f)).length = n
  nc : n ≤ cap
  cm : cap ≤ maxLen
  held : HoldsK Pf.cells 2 W g 0 (sortP (l.filter f)).toArray
theorem settle_sort (f : Pf → Bool) (l : List Pf) (hl : l.length ≤ 1000) (base : Nat) (w0 : World) (g n cap : Nat) (w : World) (hB : Below base w0 w)
    (ho : w.ownsRow base 44 2 (.slice (some ⟨g, 0, none⟩) n cap) n ((l.filter f).flatMap Pf.cells)) :
    Calls Try.prog 46 #[.slice (some ⟨g, 0, none⟩) n cap, .func (.func 47) #[] #[]] w fun e w1 => e = .returned (.tuple #[]) ∧ SortedW f l base w0 g n cap w1 := by
  obtain ⟨hg, hgl, hnc, hcm, hH⟩ := holdsK_own ho
  have hln : (l.filter f).length = n := by have := ho.1; rw [pfs_len] at this; omega
  have hlf := List.length_filter_le f l
  have h := sort_any g 0 cap (l.filter f).toArray w hH hgl (by simp; omega)
  simp only [List.size_toArray, hln] at h
  refine h.mono ?_
  rintro e w1 ⟨rfl, m, os, rfl⟩
  refine ⟨rfl, ?_, hg, by rw [sortP_len]; exact hln, hnc, hcm, ?_⟩
  · unfold Go.Proofs.sortWorldK
    exact below_grow (Go.Lib.below_putRow hB hg) (by simp [Go.Sort.putRow, Go.Sort.mapBlock, Sort.ahead]; omega) os
  · exact Go.Proofs.holdsK_sortWorldK Pf.cells 2 w g 0 m _ _ os hgl hH (by simp [sortP_len])
theorem settle_comp (f : Pf → Bool) (l : List Pf) (hl : l.length ≤ 1000) (hok : ∀ p ∈ l, p.ok) (base : Nat) (w0 : World) (g n cap : Nat) (w : World) (h : SortedW f l base w0 g n cap w) :
    Calls Try.prog 48 #[.slice (some ⟨g, 0, none⟩) n cap] w fun e w2 => DiffE f l e w2 ∧ Below base w0 w2 := by
  have hlf := List.length_filter_le f l
  have hsl := sortP_len (l.filter f)
  have hc := compact_any g 0 cap (sortP (l.filter f)).toArray w h.held (by simp; omega) (by simp [h.len]; exact h.nc) (by have := h.cm; unfold maxLen at this; omega)
  simp only [List.size_toArray, h.len] at hc
  have hD : compactUpTo (sortP (l.filter f)).toArray n = diffL f l := by unfold diffL; rw [h.len]
  rw [hD] at hc
  refine hc.mono ?_
  rintro e w2 ⟨rfl, q, rfl⟩
  have hdl : (diffL f l).length ≤ n := by
    rw [← hD]
    unfold compactUpTo
    rw [List.length_map]
    exact Nat.le_trans (List.length_filter_le _ _) (by simp)
  have hH := holdsK_putRowK Pf.cells 2 (Sort.ahead w q) g 0 _ (diffL f l ++ List.replicate (n - (diffL f l).length) (⟨0, 0⟩ : Pf)).toArray (holdsK_ahead Pf.cells 2 w q g 0 _ h.held) (by simp [h.len]; omega)
  refine ⟨⟨_, _, rfl, ⟨⟨pfs_len _, fun _ => ⟨g, 0, rfl, holdsK_row _ hH⟩⟩, rfl, fun p hp => hok p (diffL_mem hp).1⟩, by have := h.nc; omega, h.cm⟩, Go.Lib.below_putRow h.bel h.base⟩
end Go.Proofs.Ytnenpfalhbbadaa
