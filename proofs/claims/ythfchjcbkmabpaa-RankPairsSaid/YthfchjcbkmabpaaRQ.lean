/- Of any two candidates: the document's Compare; that it is the program's. -/
import Derived.Test.YthfchjcbkmabpaaRJ
import Derived.Test.YthfchjcbkmabpaaRH
namespace Go.Proofs.Ythfchjcbkmabpaa
open Go.RowKit

theorem leftP2 (K : Nat → Nat → Int) (Nr : Nat → Int) (s : Nat) : leftP K Nr [0, 1] s = if s ≠ 4 ∨ Nr 0 = Nr 1 then (if K 0 (s - 1) < K 1 (s - 1) then [0] else if K 1 (s - 1) < K 0 (s - 1) then [1] else [0, 1]) else [0, 1] := by
  have e0 : decide (K 0 (s - 1) < K 0 (s - 1)) = false := decide_eq_false (by omega)
  have e1 : decide (K 1 (s - 1) < K 1 (s - 1)) = false := decide_eq_false (by omega)
  have en : decide (s ≠ 4 ∨ Nr 1 = Nr 0) = decide (s ≠ 4 ∨ Nr 0 = Nr 1) := by
    rw [Bool.eq_iff_iff, decide_eq_true_iff, decide_eq_true_iff]
    exact ⟨Or.imp id Eq.symm, Or.imp id Eq.symm⟩
  unfold leftP
  simp only [List.filter_cons, List.filter_nil, List.all_cons, List.all_nil, e0, e1, en, Bool.and_false, Bool.not_false, Bool.true_and, Bool.and_true]
  by_cases h : s ≠ 4 ∨ Nr 0 = Nr 1
  · rw [if_pos h, decide_eq_true h, Bool.true_and, Bool.true_and]
    by_cases h1 : K 0 (s - 1) < K 1 (s - 1)
    · have h2 : ¬ K 1 (s - 1) < K 0 (s - 1) := by omega
      rw [if_pos h1, decide_eq_true h1, decide_eq_false h2]
      rfl
    · rw [if_neg h1, decide_eq_false h1]
      by_cases h2 : K 1 (s - 1) < K 0 (s - 1)
      · rw [if_pos h2, decide_eq_true h2]
        rfl
      · rw [if_neg h2, decide_eq_false h2]
        rfl
  · rw [if_neg h, decide_eq_false h]
    rfl
theorem ag_step (a b : Cnd) (f m : Nat) : agF a.key b.key (a.near == b.near) (f + 1) m =
    match leftP (KL [a, b]) (NL [a, b]) [0, 1] (m + 1) with
    | [i] => (2 * (i : Int) - 1, (m : Int) + 1)
    | _ => agF a.key b.key (a.near == b.near) f (m + 1) := by
  rw [leftP2, agF]
  have hk0 : KL [a, b] 0 = a.key := rfl
  have hk1 : KL [a, b] 1 = b.key := rfl
  have hn0 : NL [a, b] 0 = a.near := rfl
  have hn1 : NL [a, b] 1 = b.near := rfl
  rw [hk0, hk1, hn0, hn1, Nat.add_sub_cancel]
  by_cases h : m = 3 ∧ (a.near == b.near) = false
  · have hne : ¬ a.near = b.near := by simpa using h.2
    rw [if_pos h, if_neg (by rintro (h1 | h1); exact h1 (by omega); exact hne h1)]
  · have hp : m + 1 ≠ 4 ∨ a.near = b.near := by
      by_cases h3 : m = 3
      · right
        cases hb : (a.near == b.near) with
        | true => simpa using hb
        | false => exact absurd ⟨h3, hb⟩ h
      · left; omega
    rw [if_neg h, if_pos hp]
    unfold cmpI
    by_cases h1 : a.key m < b.key m
    · rw [if_pos h1, if_pos h1, if_pos (by decide)]
      rfl
    · rw [if_neg h1, if_neg h1]
      by_cases h2 : b.key m < a.key m
      · rw [if_pos h2, if_pos h2, if_pos (by decide)]
        rfl
      · rw [if_neg h2, if_neg h2, if_neg (by decide)]
theorem leftP2_cases (K : Nat → Nat → Int) (Nr : Nat → Int) (s : Nat) : leftP K Nr [0, 1] s = [0] ∨ leftP K Nr [0, 1] s = [1] ∨ leftP K Nr [0, 1] s = [0, 1] := by
  rw [leftP2]
  split
  · split
    · exact .inl rfl
    · split
      · exact .inr (.inl rfl)
      · exact .inr (.inr rfl)
  · exact .inr (.inr rfl)
theorem cands_two {w : World} {b : Nat} {x y : Cnd} {C : Array Value} {e : TypeId} (hb : w.heap[b]? = some (.cells C e (0, 0))) (hC : C = (x.cells ++ y.cells).toArray) (hx : x.at w) (hy : y.at w) : CandsV w (some ⟨b, 0, none⟩) 2 [x, y] := by
  subst hC
  refine ⟨rfl, fun _ => ⟨b, 0, rfl, fun i hi j v hv => ?_⟩, fun c hc => ?_⟩
  · refine cellOf hb _ ?_
    simp at hi
    match i, hi with
    | 0, _ =>
      have hj : j < 16 := by have := (List.getElem?_eq_some_iff.1 hv).1; exact this
      simp only [List.getElem_cons_zero] at hv
      simp only [Nat.zero_mul, Nat.zero_add, List.getElem?_toArray]
      rw [List.getElem?_append_left (by show j < 16; exact hj)]
      exact hv
    | 1, _ =>
      simp only [List.getElem_cons_succ, List.getElem_cons_zero] at hv
      simp only [Nat.one_mul, Nat.zero_add, List.getElem?_toArray]
      rw [List.getElem?_append_right (by show 16 ≤ 16 + j; omega), show 16 + j - x.cells.length = j by show 16 + j - 16 = j; omega]
      exact hv
  · simp at hc
    rcases hc with rfl | rfl
    · exact hx
    · exact hy
theorem info_a (a : Cnd) : (Try.prog.info? 34).map (·.size) = some ([.int .i64 a.peer, .bool a.ext, .int .u32 a.near, .int .u32 a.id, .int .u32 a.addr, .int .i64 a.origin, .slice a.pa a.pl a.pc, .int .u32 a.next, .int .i64 a.med, .int .i64 a.pref, .bool a.atomic, .bool a.hasAggr, .int .u32 a.aas, .int .u32 a.aad, .slice a.ca a.cl a.cc, .slice a.ra a.rl a.rc] : List Value).length := Try.info34

set_option maxHeartbeats 4000000 in
theorem rcompare_any (a b : Cnd) (w : World) (ha : a.at w) (hb : b.at w) (hna : a.pl ≤ 1000000) (hnb : b.pl ≤ 1000000) :
    Calls Try.prog 13 #[a.val, b.val] w fun e w' => e = .returned (.tuple #[.int .i64 (cmpP a b).1, .int .i64 (cmpP a b).2]) ∧ Below w.heap.size w w' := by
  obtain ⟨R, hR⟩ : ∃ R, R = cmpP a b := ⟨_, rfl⟩
  rw [← hR]
  have HR := hidp hR
  have h0 : SKK w.heap.size a b w ((w.alloc (.cells a.cells.toArray 34)).alloc (.cells b.cells.toArray 34)) :=
    ⟨heap_alloc_at (heap_alloc_new w _) _, heap_alloc_top _ _ _ (by simp), ((Below.refl w.heap.size w).alloc (Nat.le_refl _) _).alloc (by simp) _⟩
  have H0 := hidp h0
  have HA := hidp (ha.below h0.bel)
  have HB := hidp (hb.below h0.bel)
  have hsz : ((w.alloc (.cells a.cells.toArray 34)).alloc (.cells b.cells.toArray 34)).heap.size = w.heap.size + 1 + 1 := by simp
  have HSZ := hidp hsz
  have HIA := hidp (info_a a)
  have HIB := hidp (info_a b)
  clear h0 hR ha hb hsz
  unfold Cnd.val
  go_enter Try.func13, Try.ntmps13
  go_upto_region 1 with (fail)
  generalize (w.alloc (.cells a.cells.toArray 34)).alloc (.cells b.cells.toArray 34) = W0 at *
  have HRA := hidp (show W0.rangeAt w.heap.size 0 [.int .i64 a.peer, .bool a.ext, .int .u32 a.near, .int .u32 a.id, .int .u32 a.addr, .int .i64 a.origin, .slice a.pa a.pl a.pc, .int .u32 a.next, .int .i64 a.med, .int .i64 a.pref, .bool a.atomic, .bool a.hasAggr, .int .u32 a.aas, .int .u32 a.aad, .slice a.ca a.cl a.cc, .slice a.ra a.rl a.rc] from H0.out.rA)
  have HRB := hidp (show W0.rangeAt (w.heap.size + 1) 0 [.int .i64 b.peer, .bool b.ext, .int .u32 b.near, .int .u32 b.id, .int .u32 b.addr, .int .i64 b.origin, .slice b.pa b.pl b.pc, .int .u32 b.next, .int .i64 b.med, .int .i64 b.pref, .bool b.atomic, .bool b.hasAggr, .int .u32 b.aas, .int .u32 b.aad, .slice b.ca b.cl b.cc, .slice b.ra b.rl b.rc] from H0.out.rB)
  go_wp2_with (first
    | (with_reducible refine wpList_load_mid rfl 34 (.tmp 2) rfl w.heap.size 0 rfl _ _ HRA.out Try.underlying34 rfl HIA.out ?_)
    | (with_reducible refine wpList_load_mid rfl 34 (.tmp 3) rfl (w.heap.size + 1) 0 rfl _ _ HRB.out Try.underlying34 rfl HIB.out ?_)
    | (go_at_call 22; refine (places_any 2 _ (by decide)).mono ?_; rintro e w1 ⟨⟨v, rfl, hO⟩, B1⟩
       have B0 : Below W0.heap.size W0 w1 := ((Below.refl W0.heap.size W0).alloc (Nat.le_refl _) _).trans (B1.mono (by simp))
       have hC := cands_two (x := a) (y := b) (heap_below B1 (heap_alloc_new _ _) (by simp)) rfl (HA.out.below B0) (HB.out.below B0)
       have H1 := hidp (And.intro hO.row (And.intro hC B0))
       clear hO hC B0 B1))
  obtain ⟨hO, hC, hB⟩ := H1.out
  have HO := hidp hO
  have HC := hidp hC
  have HB1 := hidp (H0.out.bel.trans (hB.mono (by rw [HSZ.out]; omega)))
  clear hO hC hB H1 HRA HRB HIA HIB HA HB H0 HSZ
  go_loopw [7, 8] (fun x i wr => ∃ m : Nat, m ≤ 8 ∧ i = .int .i64 ((m : Int) + 1) ∧ RowAt wr 1 x 2 ([0, 1].map intv) ∧ R = agF a.key b.key (a.near == b.near) (8 - m) m ∧ Below w1.heap.size w1 wr) (fun _ i _ => 9 - (intOf i).toNat)
  case atStart => exact ⟨0, by omega, rfl, HO.out, HR.out, Below.refl _ _⟩
  case round =>
    obtain ⟨m, hm, rfl, hR, hag, hB⟩ := hrel
    obtain ⟨w2, rfl⟩ : ∃ w2, w2 = wr := ⟨_, rfl⟩
    by_cases h8 : m < 8
    · rw [show 8 - m = (8 - (m + 1)) + 1 by omega, ag_step] at hag
      have l1 : (m : Int) + 1 ≤ 8 := by omega
      have HRW := hidp hR
      have HAG := hidp hag
      have HBB := hidp hB
      clear hR hag hB
      go_wp2_with fail
      refine (left_any [a, b] [0, 1] (m + 1) _ 2 2 _ w2 (HC.out.below HBB.out) HRW.out (by decide) (by decide) ?_ (by omega) (by omega)).mono ?_
      · intro c hc
        simp at hc
        rcases hc with rfl | rfl
        · exact hna
        · exact hnb
      rintro e w3 ⟨⟨v', rfl, hO3⟩, B3⟩
      have HB3 := hidp (HBB.out.trans (B3.mono HBB.out.size))
      clear B3
      rcases leftP2_cases (KL [a, b]) (NL [a, b]) (m + 1) with hl | hl | hl
      · rw [hl] at hO3 HAG
        have HRV := hidp (show R = (-1, (m : Int) + 1) from HAG.out)
        obtain ⟨a3, c3, rfl, hr⟩ := hO3.row.ints
        obtain ⟨g, o, rfl, hc⟩ := hr (by decide)
        have c0 := hc 0 (by decide)
        simp only [List.getElem_cons_zero, Nat.add_zero] at c0
        clear hc hr hl hO3 HAG
        simp only [List.length_cons, List.length_nil, Nat.zero_add]
        go_wp2
        go_ret2
        exact ⟨by rw [HRV.out]; rfl, HB1.out.trans (HB3.out.mono HB1.out.size)⟩
      · rw [hl] at hO3 HAG
        have HRV := hidp (show R = (1, (m : Int) + 1) from HAG.out)
        obtain ⟨a3, c3, rfl, hr⟩ := hO3.row.ints
        obtain ⟨g, o, rfl, hc⟩ := hr (by decide)
        have c0 := hc 0 (by decide)
        simp only [List.getElem_cons_zero, Nat.add_zero] at c0
        clear hc hr hl hO3 HAG
        simp only [List.length_cons, List.length_nil, Nat.zero_add]
        go_wp2
        go_ret2
        exact ⟨by rw [HRV.out]; rfl, HB1.out.trans (HB3.out.mono HB1.out.size)⟩
      · rw [hl] at hO3 HAG
        have HRV := hidp (show R = agF a.key b.key (a.near == b.near) (8 - (m + 1)) (m + 1) from HAG.out)
        have HRO := hidp hO3.row
        obtain ⟨a3, c3, e3, -⟩ := hO3.row.ints
        clear hl hO3 HAG
        subst e3
        simp only [List.length_cons, List.length_nil, Nat.zero_add, Nat.reduceAdd]
        go_wp2
        go_roundw
        case rel => exact ⟨m + 1, by omega, by go_num, HRO.out, HRV.out, HB3.out⟩
        case measure => simp [intOf]; omega
    · have l1 : ¬ (m : Int) + 1 ≤ 8 := by omega
      obtain rfl : m = 8 := by omega
      have HRV := hidp (show R = (0, 0) from hag)
      have HBB := hidp hB
      clear hag hB hR
      go_wp2
      go_ret2
      exact ⟨by rw [HRV.out]; rfl, HB1.out.trans (HBB.out.mono HB1.out.size)⟩
end Go.Proofs.Ythfchjcbkmabpaa
