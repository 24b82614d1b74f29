/- The example of the laws: the program answers it as the document does. -/
import Derived.Test.YthfchjcbkmabpaaRJ
import Derived.Test.YthfchjcbkmabpaaRI
import Derived.Test.YthfchjcbkmabpaaRH
namespace Go.Proofs.Ythfchjcbkmabpaa
open Go.RowKit

def exA (g : Nat) : Cnd := ⟨1, false, 0, 0, 0, 0, some ⟨g + 1, 0, none⟩, 1, 1, 0, -1, 200, false, false, 0, 0, none, 0, 0, none, 0, 0, [⟨2, some ⟨g, 0, none⟩, 3, 3⟩]⟩
def exB : Cnd := ⟨0, false, 0, 0, 0, 0, none, 0, 0, 0, -1, -1, false, false, 0, 0, none, 0, 0, none, 0, 0, []⟩
theorem ex_cmp (g : Nat) : cmpP (exA g) exB = (-1, 1) := by kernel_rfl
theorem ex_among (g : Nat) : amongP (KL [exB, exA g]) (NL [exB, exA g]) [0, 1] = 1 := by kernel_rfl
theorem ex_best (g : Nat) (r : Int) (h : PBest [exB, exA g] r) : r = 1 := by
  have := among_best (KL [exB, exA g]) (NL [exB, exA g]) (xs := [0, 1]) (by simp) h
  rw [← this]
  exact ex_among g
theorem ex_none (r : Int) (h : PBest [] r) : r = -1 := h.1 rfl
theorem exB_at (w : World) : exB.at w := ⟨rfl, fun h => absurd h (by decide)⟩
def litA (g : Nat) : List Value := [.int .i64 1, .bool false, .int .u32 0, .int .u32 0, .int .u32 0, .int .i64 0, .slice (some ⟨g + 1, 0, none⟩) 1 1, .int .u32 0, .int .i64 (-1), .int .i64 200, .bool false, .bool false, .int .u32 0, .int .u32 0, .slice none 0 0, .slice none 0 0]
def litB : List Value := [.int .i64 0, .bool false, .int .u32 0, .int .u32 0, .int .u32 0, .int .i64 0, .slice none 0 0, .int .u32 0, .int .i64 (-1), .int .i64 (-1), .bool false, .bool false, .int .u32 0, .int .u32 0, .slice none 0 0, .slice none 0 0]
theorem range_block {w : World} {b : Nat} {cs : List Value} {e : TypeId} (h : w.heap[b]? = some (.cells cs.toArray e (0, 0))) : w.rangeAt b 0 cs := fun j v hv => cellOf h (0 + j) (by simpa using hv)
theorem ex_cands {w : World} {b g : Nat} {C : Array Value} {e : TypeId} (hb : w.heap[b]? = some (.cells C e (0, 0))) (hC : C = (litB ++ litA g).toArray) (ha : (exA g).at w) : CandsV w (some ⟨b, 0, none⟩) 2 [exB, exA g] := by
  subst hC
  refine ⟨rfl, fun _ => ⟨b, 0, rfl, fun i hi j v hv => ?_⟩, fun c hc => ?_⟩
  · refine cellOf hb _ ?_
    simp at hi
    match i, hi with
    | 0, _ =>
      have hj : j < 16 := by have := (List.getElem?_eq_some_iff.1 hv).1; exact this
      simp only [List.getElem_cons_zero] at hv
      simp only [Nat.zero_mul, Nat.zero_add, List.getElem?_toArray]
      rw [List.getElem?_append_left (by show j < 16; exact hj)]
      exact hv
    | 1, _ =>
      simp only [List.getElem_cons_succ, List.getElem_cons_zero] at hv
      simp only [Nat.one_mul, Nat.zero_add, List.getElem?_toArray]
      rw [List.getElem?_append_right (by show 16 ≤ 16 + j; omega), show 16 + j - litB.length = j by show 16 + j - 16 = j; omega]
      exact hv
  · simp at hc
    rcases hc with rfl | rfl
    · exact exB_at w
    · exact ha

theorem ex_compare (g : Nat) (W : World) (h : (exA g).at W) : Calls Try.prog 12 #[.agg #[.int .i64 1, .bool false, .int .u32 0, .int .u32 0, .int .u32 0, .int .i64 0, .slice (some ⟨g + 1, 0, none⟩) 1 1, .int .u32 0, .int .i64 (-1), .int .i64 200, .bool false, .bool false, .int .u32 0, .int .u32 0, .slice none 0 0, .slice none 0 0], .agg #[.int .i64 0, .bool false, .int .u32 0, .int .u32 0, .int .u32 0, .int .i64 0, .slice none 0 0, .int .u32 0, .int .i64 (-1), .int .i64 (-1), .bool false, .bool false, .int .u32 0, .int .u32 0, .slice none 0 0, .slice none 0 0]] W fun e w' => e = .returned (.tuple #[.int .i64 (-1), .int .i64 1]) ∧ Below W.heap.size W w' := by
  have := pcompare_any (exA g) exB W h (exB_at W) (show 1 ≤ 1000000 by decide) (show 0 ≤ 1000000 by decide)
  rw [ex_cmp] at this
  exact this
theorem ex_bests (g b : Nat) (W : World) (h : (exA g).at W) (hb : W.heap[b]? = some (.cells #[.int .i64 0, .bool false, .int .u32 0, .int .u32 0, .int .u32 0, .int .i64 0, .slice none 0 0, .int .u32 0, .int .i64 (-1), .int .i64 (-1), .bool false, .bool false, .int .u32 0, .int .u32 0, .slice none 0 0, .slice none 0 0, .int .i64 1, .bool false, .int .u32 0, .int .u32 0, .int .u32 0, .int .i64 0, .slice (some ⟨g + 1, 0, none⟩) 1 1, .int .u32 0, .int .i64 (-1), .int .i64 200, .bool false, .bool false, .int .u32 0, .int .u32 0, .slice none 0 0, .slice none 0 0] 34 (0, 0))) :
    Calls Try.prog 10 #[.slice (some ⟨b, 0, none⟩) 2 2] W fun e w' => e = .returned (.int .i64 1) ∧ Below W.heap.size W w' := by
  refine (pbest_any [exB, exA g] (some ⟨b, 0, none⟩) 2 2 W (ex_cands hb rfl h) (by decide) (fun c hc => ?_)).mono ?_
  · simp at hc
    rcases hc with rfl | rfl
    · show 0 ≤ 1000000; decide
    · show 1 ≤ 1000000; decide
  · rintro e w' ⟨⟨r, rfl, hr⟩, hB⟩
    rw [ex_best g r hr]
    exact ⟨rfl, hB⟩
theorem ex_bestn (W : World) : Calls Try.prog 10 #[.slice none 0 0] W fun e w' => e = .returned (.int .i64 (-1)) ∧ Below W.heap.size W w' := by
  refine (pbest_any [] none 0 0 W ⟨rfl, fun h => absurd h (by decide), fun c hc => absurd hc (by simp)⟩ (by decide) (fun c hc => absurd hc (by simp))).mono ?_
  rintro e w' ⟨⟨r, rfl, hr⟩, hB⟩
  rw [ex_none r hr]
  exact ⟨rfl, hB⟩

set_option maxHeartbeats 4000000 in
theorem awake_any (w : World) : Calls Try.prog 9 #[] w fun e w' => e = .returned (.bool true) ∧ Below w.heap.size w w' := by
  go_enter Try.func9, Try.ntmps9
  go_upto_region 3 with (fail)
  obtain ⟨w1, h1⟩ : ∃ w1, w1 = ((((w.alloc (.cells #[.int .u32 1, .int .u32 2, .int .u32 3] 27)).alloc (.cells #[.int .i64 2, .slice (some ⟨w.heap.size, 0, none⟩) 3 3] 45)).alloc (.cells (litA w.heap.size).toArray 34)).alloc (.cells litB.toArray 34)) := ⟨_, rfl⟩
  have k3 : w1.heap[w.heap.size + 1 + 1 + 1]? = some (.cells litB.toArray 34 (0, 0)) := by rw [h1]; exact heap_alloc_top _ _ _ (by simp)
  have k2 : w1.heap[w.heap.size + 1 + 1]? = some (.cells (litA w.heap.size).toArray 34 (0, 0)) := by rw [h1]; exact heap_alloc_at (heap_alloc_top _ _ _ (by simp)) _
  have k1 : w1.heap[w.heap.size + 1]? = some (.cells #[.int .i64 2, .slice (some ⟨w.heap.size, 0, none⟩) 3 3] 45 (0, 0)) := by rw [h1]; exact heap_alloc_at (heap_alloc_at (heap_alloc_top _ _ _ (by simp)) _) _
  have hA : (exA w.heap.size).at w1 := ⟨rfl, fun _ => ⟨_, 0, rfl, fun i hi j v hv => by
    have hi' : i < 1 := hi
    obtain rfl : i = 0 := by omega
    refine cellOf k1 _ ?_
    have hj : j < 2 := by have := (List.getElem?_eq_some_iff.1 hv).1; exact this
    simp only [Nat.zero_mul, Nat.add_zero, Nat.zero_add, List.getElem?_toArray]
    exact hv⟩⟩
  have hB1 : Below w.heap.size w w1 := by
    rw [h1]
    exact ((((Below.refl _ _).alloc (Nat.le_refl _) _).alloc (by simp) _).alloc (by simp; omega) _).alloc (by simp; omega) _
  unfold litA litB at h1
  rw [← h1]
  have HA := hidp hA
  have HB1 := hidp hB1
  have K2 := hidp k2
  have K3 := hidp k3
  have HR2 := hidp (show ∀ W, Below w1.heap.size w1 W → W.rangeAt (w.heap.size + 1 + 1) 0 [.int .i64 1, .bool false, .int .u32 0, .int .u32 0, .int .u32 0, .int .i64 0, .slice (some ⟨w.heap.size + 1, 0, none⟩) 1 1, .int .u32 0, .int .i64 (-1), .int .i64 200, .bool false, .bool false, .int .u32 0, .int .u32 0, .slice none 0 0, .slice none 0 0] from fun W hW => range_block (heap_below hW k2 (ltOf k2)))
  have HR3 := hidp (show ∀ W, Below w1.heap.size w1 W → W.rangeAt (w.heap.size + 1 + 1 + 1) 0 [.int .i64 0, .bool false, .int .u32 0, .int .u32 0, .int .u32 0, .int .i64 0, .slice none 0 0, .int .u32 0, .int .i64 (-1), .int .i64 (-1), .bool false, .bool false, .int .u32 0, .int .u32 0, .slice none 0 0, .slice none 0 0] from fun W hW => range_block (heap_below hW k3 (ltOf k3)))
  have hsz : w.heap.size + 1 + 1 + 1 < w1.heap.size := ltOf k3
  clear h1 hA hB1 k1 k2 k3
  have HLA := hidp (show (Try.prog.info? 34).map (·.size) = some ([.int .i64 1, .bool false, .int .u32 0, .int .u32 0, .int .u32 0, .int .i64 0, .slice (some ⟨w.heap.size + 1, 0, none⟩) 1 1, .int .u32 0, .int .i64 (-1), .int .i64 200, .bool false, .bool false, .int .u32 0, .int .u32 0, .slice none 0 0, .slice none 0 0] : List Value).length from Try.info34)
  have HLB := hidp (show (Try.prog.info? 34).map (·.size) = some ([.int .i64 0, .bool false, .int .u32 0, .int .u32 0, .int .u32 0, .int .i64 0, .slice none 0 0, .int .u32 0, .int .i64 (-1), .int .i64 (-1), .bool false, .bool false, .int .u32 0, .int .u32 0, .slice none 0 0, .slice none 0 0] : List Value).length from Try.info34)
  go_wp2_with (first
    | (with_reducible refine wpList_load_mid rfl 34 (.tmp 1) rfl (w.heap.size + 1 + 1) 0 rfl [.int .i64 1, .bool false, .int .u32 0, .int .u32 0, .int .u32 0, .int .i64 0, .slice (some ⟨w.heap.size + 1, 0, none⟩) 1 1, .int .u32 0, .int .i64 (-1), .int .i64 200, .bool false, .bool false, .int .u32 0, .int .u32 0, .slice none 0 0, .slice none 0 0] _ (HR2.out _ (Below.refl _ _)) Try.underlying34 rfl HLA.out ?_)
    | (with_reducible refine wpList_load_mid rfl 34 (.tmp 2) rfl (w.heap.size + 1 + 1 + 1) 0 rfl [.int .i64 0, .bool false, .int .u32 0, .int .u32 0, .int .u32 0, .int .i64 0, .slice none 0 0, .int .u32 0, .int .i64 (-1), .int .i64 (-1), .bool false, .bool false, .int .u32 0, .int .u32 0, .slice none 0 0, .slice none 0 0] _ (HR3.out _ (Below.refl _ _)) Try.underlying34 rfl HLB.out ?_)
    | (with_reducible refine wpList_load_mid rfl 34 (.tmp 1) rfl (w.heap.size + 1 + 1) 0 rfl [.int .i64 1, .bool false, .int .u32 0, .int .u32 0, .int .u32 0, .int .i64 0, .slice (some ⟨w.heap.size + 1, 0, none⟩) 1 1, .int .u32 0, .int .i64 (-1), .int .i64 200, .bool false, .bool false, .int .u32 0, .int .u32 0, .slice none 0 0, .slice none 0 0] _ (HR2.out _ H2.out) Try.underlying34 rfl HLA.out ?_)
    | (with_reducible refine wpList_load_mid rfl 34 (.tmp 2) rfl (w.heap.size + 1 + 1 + 1) 0 rfl [.int .i64 0, .bool false, .int .u32 0, .int .u32 0, .int .u32 0, .int .i64 0, .slice none 0 0, .int .u32 0, .int .i64 (-1), .int .i64 (-1), .bool false, .bool false, .int .u32 0, .int .u32 0, .slice none 0 0, .slice none 0 0] _ (HR3.out _ H2.out) Try.underlying34 rfl HLB.out ?_)
    | (go_at_call 12; (with_reducible refine (ex_compare w.heap.size _ HA.out).mono ?_); rintro e w2 ⟨rfl, B2⟩
       have H2 := hidp B2
       clear B2)
    | (go_at_call 10; (with_reducible refine (ex_bests w.heap.size w2.heap.size _ (HA.out.below (H2.out.alloc H2.out.size _)) (heap_alloc_new _ _)).mono ?_); rintro e w3 ⟨rfl, B3⟩
       have H3 := hidp ((H2.out.alloc H2.out.size _).trans (B3.mono (by have := H2.out.size; simp; omega)))
       clear B3)
    | (go_at_call 10; (with_reducible refine (ex_bestn _).mono ?_); rintro e w4 ⟨rfl, B4⟩
       have H4 := hidp (H3.out.trans (B4.mono H3.out.size))
       clear B4))
  go_ret
  exact ⟨rfl, HB1.out.trans (H4.out.mono HB1.out.size)⟩
end Go.Proofs.Ythfchjcbkmabpaa
