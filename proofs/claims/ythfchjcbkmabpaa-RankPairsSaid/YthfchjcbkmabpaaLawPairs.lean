/- RankPairs answers true: of any two the program takes the one that the document takes, at the same step, and the other way round the same; of candidates that are not few only the example is asked. -/
import Derived.Test.YthfchjcbkmabpaaRQ
import Derived.Test.YthfchjcbkmabpaaRW
namespace Go.Proofs.Ythfchjcbkmabpaa
open Go.RowKit

theorem cmpI_swap (x y : Int) : cmpI y x = -cmpI x y := by
  unfold cmpI
  by_cases h1 : x < y
  · rw [if_neg (by omega), if_pos h1, if_pos h1]; rfl
  · by_cases h2 : y < x
    · rw [if_pos h2, if_neg h1, if_pos h2]
    · rw [if_neg h2, if_neg h1, if_neg h1, if_neg h2]; rfl
theorem ag_swap (x y : Nat → Int) (med : Bool) : ∀ f i, agF y x med f i = (-(agF x y med f i).1, (agF x y med f i).2)
  | 0, _ => rfl
  | f + 1, i => by
    rw [agF, agF, ag_swap x y med f (i + 1), cmpI_swap]
    split
    · rfl
    · split
      · rename_i h
        rw [if_pos (by omega)]
      · rename_i h
        rw [if_neg (by omega)]
theorem ag_one (x y : Nat → Int) (med : Bool) : ∀ f i, (agF x y med f i).1 = -1 ∨ (agF x y med f i).1 = 0 ∨ (agF x y med f i).1 = 1
  | 0, _ => .inr (.inl rfl)
  | f + 1, i => by
    rw [agF]
    split
    · exact ag_one x y med f (i + 1)
    · split
      · unfold cmpI
        split
        · exact .inl rfl
        · split
          · exact .inr (.inr rfl)
          · exact .inr (.inl rfl)
      · exact ag_one x y med f (i + 1)
theorem cmpP_swap (a b : Cnd) : cmpP b a = (-(cmpP a b).1, (cmpP a b).2) := by
  unfold cmpP
  rw [show (b.near == a.near) = (a.near == b.near) from Bool.beq_comm, ag_swap]

set_option maxHeartbeats 4000000 in
theorem lawPairs_any (a b : Cnd) (w : World) (ha : a.at w) (hb : b.at w) :
    Calls Try.prog 4 #[a.val, b.val] w fun e w' => e = .returned (.bool true) ∧ Below w.heap.size w w' := by
  have h0 : SKK w.heap.size a b w ((w.alloc (.cells a.cells.toArray 34)).alloc (.cells b.cells.toArray 34)) :=
    ⟨heap_alloc_at (heap_alloc_new w _) _, heap_alloc_top _ _ _ (by simp), ((Below.refl w.heap.size w).alloc (Nat.le_refl _) _).alloc (by simp) _⟩
  have H0 := hidp h0
  have hA := ha.below h0.bel
  have hB := hb.below h0.bel
  have hsz : ((w.alloc (.cells a.cells.toArray 34)).alloc (.cells b.cells.toArray 34)).heap.size = w.heap.size + 1 + 1 := by simp
  have HSZ := hidp hsz
  have HA := hidp hA
  have HB := hidp hB
  have HIA := hidp (info_a a)
  have HIB := hidp (info_a b)
  clear h0 ha hb hsz hA hB
  unfold Cnd.val
  go_enter Try.func4, Try.ntmps4
  go_upto_region 1 with (fail)
  generalize (w.alloc (.cells a.cells.toArray 34)).alloc (.cells b.cells.toArray 34) = W0 at *
  have HRA := hidp (show W0.rangeAt w.heap.size 0 [.int .i64 a.peer, .bool a.ext, .int .u32 a.near, .int .u32 a.id, .int .u32 a.addr, .int .i64 a.origin, .slice a.pa a.pl a.pc, .int .u32 a.next, .int .i64 a.med, .int .i64 a.pref, .bool a.atomic, .bool a.hasAggr, .int .u32 a.aas, .int .u32 a.aad, .slice a.ca a.cl a.cc, .slice a.ra a.rl a.rc] from H0.out.rA)
  have HRB := hidp (show W0.rangeAt (w.heap.size + 1) 0 [.int .i64 b.peer, .bool b.ext, .int .u32 b.near, .int .u32 b.id, .int .u32 b.addr, .int .i64 b.origin, .slice b.pa b.pl b.pc, .int .u32 b.next, .int .i64 b.med, .int .i64 b.pref, .bool b.atomic, .bool b.hasAggr, .int .u32 b.aas, .int .u32 b.aad, .slice b.ca b.cl b.cc, .slice b.ra b.rl b.rc] from H0.out.rB)
  have HGA := hidp (show ∀ W, Below W0.heap.size W0 W → W.rangeAt w.heap.size 0 a.cells from fun W hW j v hv => below_cell hW (Nat.le_refl _) _ _ (H0.out.rA j v hv))
  have HGB := hidp (show ∀ W, Below W0.heap.size W0 W → W.rangeAt (w.heap.size + 1) 0 b.cells from fun W hW j v hv => below_cell hW (Nat.le_refl _) _ _ (H0.out.rB j v hv))
  go_wp2_with (first
    | (with_reducible refine wpList_load_mid rfl 34 (.tmp 2) rfl w.heap.size 0 rfl _ _ HRA.out Try.underlying34 rfl HIA.out ?_)
    | (with_reducible refine wpList_load_mid rfl 34 (.tmp 3) rfl (w.heap.size + 1) 0 rfl _ _ HRB.out Try.underlying34 rfl HIB.out ?_))
  have hB1 := (Below.refl W0.heap.size W0).alloc (Nat.le_refl _) (.cells #[.int .i64 a.peer, .bool a.ext, .int .u32 a.near, .int .u32 a.id, .int .u32 a.addr, .int .i64 a.origin, .slice a.pa a.pl a.pc, .int .u32 a.next, .int .i64 a.med, .int .i64 a.pref, .bool a.atomic, .bool a.hasAggr, .int .u32 a.aas, .int .u32 a.aad, .slice a.ca a.cl a.cc, .slice a.ra a.rl a.rc, .int .i64 b.peer, .bool b.ext, .int .u32 b.near, .int .u32 b.id, .int .u32 b.addr, .int .i64 b.origin, .slice b.pa b.pl b.pc, .int .u32 b.next, .int .i64 b.med, .int .i64 b.pref, .bool b.atomic, .bool b.hasAggr, .int .u32 b.aas, .int .u32 b.aad, .slice b.ca b.cl b.cc, .slice b.ra b.rl b.rc] 34)
  refine (few_any [a, b] (some ⟨W0.heap.size, 0, none⟩) 2 2 2 _ (cands_two (heap_alloc_new _ _) rfl (HA.out.below hB1) (HB.out.below hB1)) (by decide)).mono ?_
  rintro e w1 ⟨⟨q, rfl, hq⟩, B1⟩
  have HB1 := hidp (hB1.trans (B1.mono (by simp)))
  have HW := hidp (show ∀ W, Below W0.heap.size W0 W → Below w.heap.size w W from fun W hW => H0.out.bel.trans (hW.mono (by rw [HSZ.out]; omega)))
  clear B1 hB1 HRA HRB HIA HIB
  cases q with
  | false =>
    clear hq
    go_wp2_with (first
      | (go_at_call 9; refine (awake_any _).mono ?_; rintro e w2 ⟨rfl, B2⟩
         have H2 := hidp (HB1.out.trans (B2.mono HB1.out.size))
         clear B2))
    go_ret
    exact ⟨rfl, HW.out _ H2.out⟩
  | true =>
    obtain ⟨-, hp⟩ := hq rfl
    have hpa : a.pl ≤ 1000000 := Nat.le_trans (hp a (by simp)) (by decide)
    have hpb : b.pl ≤ 1000000 := Nat.le_trans (hp b (by simp)) (by decide)
    clear hp hq
    have hone : (cmpP a b).1 = -1 ∨ (cmpP a b).1 = 0 ∨ (cmpP a b).1 = 1 := by unfold cmpP; exact ag_one _ _ _ 8 0
    have hsw := cmpP_swap a b
    have c1 : ∀ W, Below W0.heap.size W0 W → Calls Try.prog 12 #[.agg a.cells.toArray, .agg b.cells.toArray] W fun e w' => e = .returned (.tuple #[.int .i64 (cmpP a b).1, .int .i64 (cmpP a b).2]) ∧ Below W.heap.size W w' := fun W hW => pcompare_any a b W (HA.out.below hW) (HB.out.below hW) hpa hpb
    have c2 : ∀ W, Below W0.heap.size W0 W → Calls Try.prog 12 #[.agg b.cells.toArray, .agg a.cells.toArray] W fun e w' => e = .returned (.tuple #[.int .i64 (cmpP b a).1, .int .i64 (cmpP b a).2]) ∧ Below W.heap.size W w' := fun W hW => pcompare_any b a W (HB.out.below hW) (HA.out.below hW) hpb hpa
    have c3 : ∀ W, Below W0.heap.size W0 W → Calls Try.prog 13 #[.agg a.cells.toArray, .agg b.cells.toArray] W fun e w' => e = .returned (.tuple #[.int .i64 (cmpP a b).1, .int .i64 (cmpP a b).2]) ∧ Below W.heap.size W w' := fun W hW => rcompare_any a b W (HA.out.below hW) (HB.out.below hW) hpa hpb
    rw [hsw] at c2
    simp only at c2
    generalize (cmpP a b).2 = st at *
    generalize (cmpP a b).1 = n at *
    have C1 := hidp c1
    have C2 := hidp c2
    have C3 := hidp c3
    clear c1 c2 c3 hsw
    rcases hone with rfl | rfl | rfl
    all_goals
      go_wp2_with (first
        | (with_reducible refine wpList_load_mid rfl 34 (.tmp 2) rfl w.heap.size 0 rfl a.cells _ (HGA.out _ HB1.out) Try.underlying34 rfl (by rw [Cnd.len]; exact Try.info34) ?_)
        | (with_reducible refine wpList_load_mid rfl 34 (.tmp 3) rfl (w.heap.size + 1) 0 rfl b.cells _ (HGB.out _ HB1.out) Try.underlying34 rfl (by rw [Cnd.len]; exact Try.info34) ?_)
        | (with_reducible refine wpList_load_mid rfl 34 (.tmp 2) rfl w.heap.size 0 rfl a.cells _ (HGA.out _ H2.out) Try.underlying34 rfl (by rw [Cnd.len]; exact Try.info34) ?_)
        | (with_reducible refine wpList_load_mid rfl 34 (.tmp 3) rfl (w.heap.size + 1) 0 rfl b.cells _ (HGB.out _ H2.out) Try.underlying34 rfl (by rw [Cnd.len]; exact Try.info34) ?_)
        | (with_reducible refine wpList_load_mid rfl 34 (.tmp 2) rfl w.heap.size 0 rfl a.cells _ (HGA.out _ H3.out) Try.underlying34 rfl (by rw [Cnd.len]; exact Try.info34) ?_)
        | (with_reducible refine wpList_load_mid rfl 34 (.tmp 3) rfl (w.heap.size + 1) 0 rfl b.cells _ (HGB.out _ H3.out) Try.underlying34 rfl (by rw [Cnd.len]; exact Try.info34) ?_)
        | (go_at_call 12; (with_reducible refine (C1.out _ HB1.out).mono ?_); rintro e w2 ⟨rfl, B2⟩
           have H2 := hidp (HB1.out.trans (B2.mono HB1.out.size))
           clear B2)
        | (go_at_call 13; (with_reducible refine (C3.out _ H2.out).mono ?_); rintro e w3 ⟨rfl, B3⟩
           have H3 := hidp (H2.out.trans (B3.mono H2.out.size))
           clear B3)
        | (go_at_call 12; (with_reducible refine (C2.out _ H3.out).mono ?_); rintro e w4 ⟨rfl, B4⟩
           have H4 := hidp (H3.out.trans (B4.mono H3.out.size))
           clear B4)
        | (go_at_call 9; refine (awake_any _).mono ?_; rintro e w5 ⟨rfl, B5⟩
           have H5 := hidp (H4.out.trans (B5.mono H4.out.size))
           clear B5))
      go_ret
      exact ⟨rfl, HW.out _ H5.out⟩
end Go.Proofs.Ythfchjcbkmabpaa
