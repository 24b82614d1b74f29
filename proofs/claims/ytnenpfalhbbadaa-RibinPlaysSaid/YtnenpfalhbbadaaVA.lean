/- The document's Get, Drop, Compare. -/
import Derived.Test.YtnenpfalhbbadaaTF
import Derived.Test.YtnenpfalhbbadaaUB
namespace Go.Proofs.Ytnenpfalhbbadaa
open Go.RowKit

theorem Try.info63 : (Try.prog.info? 63).map (·.size) = some 14 := by kernel_rfl
theorem ens_drop {E : List En} {j : Nat} (hj : j < E.length) (p : Pf) : getL (E.drop j) p = if E[j].p = p then (E[j].att, true) else getL (E.drop (j + 1)) p := by
  rw [List.drop_eq_getElem_cons hj, getL]
set_option maxRecDepth 100000 in
set_option maxHeartbeats 4000000 in
theorem get16_any (wA : World) (a : Option Addr) (n c : Nat) (E : List En) (p : Pf) (w : World) (h : EnsV wA w a n E) (hn : n ≤ 1000) :
    Calls Try.prog 32 #[.slice a n c, p.val] w fun e w' => e = .returned (.tuple #[(getL E p).1.val, .bool (getL E p).2]) ∧ Below w.heap.size w w' := by
  have hpv : p.val = .agg #[.int .u32 (p.a : Int), .int .i64 p.l] := rfl
  rw [hpv]
  have hB := ((Below.refl w.heap.size w).alloc (Nat.le_refl _) (.cells #[.int .u32 (p.a : Int), .int .i64 p.l] 44)).alloc (by simp) (.cells att0.cells.toArray 37)
  have k0 : ((w.alloc (.cells #[.int .u32 (p.a : Int), .int .i64 p.l] 44)).alloc (.cells att0.cells.toArray 37)).heap[w.heap.size]? = some (.cells #[.int .u32 (p.a : Int), .int .i64 p.l] 44 (0, 0)) := heap_alloc_at (heap_alloc_new w _) _
  have k1 : ((w.alloc (.cells #[.int .u32 (p.a : Int), .int .i64 p.l] 44)).alloc (.cells att0.cells.toArray 37)).heap[w.heap.size + 1]? = some (.cells att0.cells.toArray 37 (0, 0)) := heap_alloc_top _ _ _ (by simp)
  have H := hidp (h.below hB)
  have HB := hidp hB
  have K0 := hidp k0
  have K1 := hidp k1
  obtain ⟨r, ok, hg⟩ : ∃ r ok, getL E p = (r, ok) := ⟨_, _, rfl⟩
  have HG := hidp hg
  have hrv : r.val = .agg r.cells.toArray := rfl
  rw [hg]
  simp only [hrv]
  clear hB k0 k1 h hpv hg hrv
  go_enter Try.func32, Try.ntmps32
  go_wp2
  change Code.wp Try.prog _ _ _ ((w.alloc (.cells #[.int .u32 (p.a : Int), .int .i64 p.l] 44)).alloc (.cells att0.cells.toArray 37))
  generalize (w.alloc (.cells #[.int .u32 (p.a : Int), .int .i64 p.l] 44)).alloc (.cells att0.cells.toArray 37) = w1 at *
  go_loopw [6] (fun i wr => ∃ j : Nat, j ≤ n ∧ i = .int .i64 (j : Int) ∧ Hid (getL (E.drop j) p = (r, ok)) ∧ Hid (Below w1.heap.size w1 wr)) (fun i _ => n - (intOf i).toNat)
  case atStart => exact ⟨0, by omega, rfl, HG.out, Below.refl _ _⟩
  case round =>
    obtain ⟨j, hj, rfl, HP, HB1⟩ := hrel
    have kz := heap_below HB1.out K1.out (ltOf K1.out)
    have KZ := hidp kz
    have HBB := hidp (HB.out.trans (HB1.out.mono HB.out.size))
    by_cases hlt : j < n
    · have l1 : (j : Int) < (n : Int) := by omega
      obtain ⟨g, o, rfl, hr⟩ := (H.out.below HB1.out).rows (by omega)
      have hjl : j < E.length := by rw [H.out.len]; exact hlt
      have q1 := hr j hjl
      have hd := ens_drop hjl p
      generalize E[j] = e at *
      have k := heap_below HB1.out K0.out (ltOf K0.out)
      have d0 := cellOf k 0 (v := .int .u32 (p.a : Int)) rfl
      have d1 := cellOf k 1 (v := .int .i64 p.l) rfl
      have c0 : wr.cell? ⟨g, o + j * 14, none⟩ = some (.int .u32 (e.p.a : Int)) := q1 0 _ rfl
      have c1 : wr.cell? ⟨g, o + j * 14 + 1, none⟩ = some (.int .i64 e.p.l) := q1 1 _ rfl
      have hE : ∀ w, (Op.equalIn 10000 44 (.agg #[.int .u32 (e.p.a : Int), .int .i64 e.p.l]) (.agg #[.int .u32 (p.a : Int), .int .i64 p.l])).run Try.prog w = .ok (decide (e.p = p)) w := equal44 e.p p
      have QA : Hid (wr.drew.rangeAt g (o + j * 14 + 3) e.att.cells) := en_att q1
      have KY : Hid (wr.drew.heap[w.heap.size + 1]? = some (.cells att0.cells.toArray 37 (0, 0))) := KZ.out
      have HD := hidp hd
      clear hr hjl k kz q1 hd
      by_cases hq : e.p = p
      · have hres : e.att = r ∧ true = ok := by
          have := HP.out
          rw [HD.out, if_pos hq] at this
          exact ⟨congrArg Prod.fst this, congrArg Prod.snd this⟩
        obtain ⟨hr1, hr2⟩ := hres
        simp only [decide_eq_true hq] at hE
        have hia : Hid ((Try.prog.info? 37).map (·.size) = some e.att.cells.length) := Try.info37
        have hia2 : Hid ((Try.prog.info? 37).map (·.size) = some e.att.cells.toArray.size) := Try.info37
        subst hr1 hr2
        clear hq
        go_wp2_with fail
        go_region
        go_wp2_with (first
          | (with_reducible refine wpList_load_mid rfl 37 (.tmp 23) rfl g (o + j * 14 + 3) rfl e.att.cells _ QA.out Try.underlying37 rfl hia.out ?_)
          | (refine wpList_store_row rfl 37 (.tmp 4) (.tmp 24) rfl (w.heap.size + 1) e.att.cells.toArray rfl rfl 37 _ KY.out hia2.out rfl e.att.all_one ?_))
        refine bodyPost_ret (results_att rfl _ _ (w.heap.size + 1) e.att.cells.toArray rfl rfl (setRow_heap _ _ _ _ _ _ KY.out)) rfl ?_
        exact ⟨rfl, below_setRow (below_drewN HBB.out 1) _ (by omega) _⟩
      · have HN := hidp (show getL (E.drop (j + 1)) p = (r, ok) by rw [← HP.out, HD.out, if_neg hq])
        simp only [decide_eq_false hq] at hE
        clear hq
        go_wp2_with fail
        go_region
        go_wp2
        go_roundw
        case rel => exact ⟨j + 1, by omega, by go_num, HN, below_drewN HB1.out 1⟩
        case measure => simp [intOf]; omega
    · have l1 : ¬ (j : Int) < (n : Int) := by omega
      obtain rfl : j = n := by omega
      have hp := HP.out
      rw [List.drop_of_length_le (by rw [H.out.len]; omega), getL] at hp
      obtain ⟨h1, h2⟩ : att0 = r ∧ false = ok := ⟨congrArg Prod.fst hp, congrArg Prod.snd hp⟩
      have hi0 : Hid ((Try.prog.info? 37).map (·.size) = some att0.cells.toArray.size) := Try.info37
      subst h1 h2
      clear hp
      go_wp2_with (refine wpList_store_row rfl 37 (.tmp 4) (.tmp 25) rfl (w.heap.size + 1) att0.cells.toArray rfl rfl 37 _ KZ.out hi0.out rfl att0.all_one ?_)
      refine bodyPost_ret (results_att rfl _ _ (w.heap.size + 1) att0.cells.toArray rfl rfl (setRow_heap _ _ _ _ _ _ KZ.out)) rfl ?_
      exact ⟨rfl, below_setRow HBB.out _ (by omega) _⟩
theorem drop_snoc (p : Pf) (E : List En) (j : Nat) (h : j < E.length) : dropL (E.take (j + 1)) p = dropL (E.take j) p ++ if E[j].p = p then [] else [E[j]] := by
  unfold dropL
  rw [List.take_succ_eq_append_getElem h, List.filter_append]
  congr 1
  by_cases hp : E[j].p = p <;> simp [hp]
theorem dropL_len (E : List En) (p : Pf) : (dropL E p).length ≤ E.length := List.length_filter_le _ _
theorem dropL_ok {wA : World} {E : List En} {p : Pf} (h : ∀ e ∈ E, e.p.ok ∧ e.att.at wA) : ∀ e ∈ dropL E p, e.p.ok ∧ e.att.at wA := fun e he => h e (mem_drop.1 he).1
/-- a list of routes that a call yields -/
def EnE (wA : World) (E : List En) (e : Ending) (W : World) : Prop := ∃ (a : Option Addr) (c : Nat), e = .returned (.slice a E.length c) ∧ EnsV wA W a E.length E
theorem EnE.of_own {wA W : World} {base : Nat} {v : Value} {E : List En} (h : W.ownsRow base 63 14 v E.length (E.flatMap En.cells)) (hok : ∀ e ∈ E, e.p.ok ∧ e.att.at wA) : EnE wA E (.returned v) W := by
  obtain ⟨a, c, rfl, hE⟩ := own_ens h hok
  exact ⟨a, c, rfl, hE⟩
set_option maxRecDepth 100000 in
set_option maxHeartbeats 4000000 in
theorem drop16_any (wA : World) (a : Option Addr) (n c : Nat) (E : List En) (p : Pf) (w : World) (h : EnsV wA w a n E) (hn : n ≤ 1000) :
    Calls Try.prog 31 #[.slice a n c, p.val] w fun e w' => EnE wA (dropL E p) e w' ∧ Below w.heap.size w w' := by
  obtain ⟨i0, hi0, hz0, hz1, hz2⟩ := info_parts Try.infos63
  have hpv : p.val = .agg #[.int .u32 (p.a : Int), .int .i64 p.l] := rfl
  rw [hpv]
  have hB := (Below.refl w.heap.size w).alloc (Nat.le_refl _) (.cells #[.int .u32 (p.a : Int), .int .i64 p.l] 44)
  have H := hidp (h.below hB)
  have HB := hidp hB
  have K0 := hidp (heap_alloc_new w (.cells #[.int .u32 (p.a : Int), .int .i64 p.l] 44))
  clear hB h hpv
  go_enter Try.func31, Try.ntmps31
  go_wp2
  change Code.wp Try.prog _ _ _ (w.alloc (.cells #[.int .u32 (p.a : Int), .int .i64 p.l] 44))
  generalize w.alloc (.cells #[.int .u32 (p.a : Int), .int .i64 p.l] 44) = w1 at *
  go_loopw [5, 6] (fun v i wr => ∃ j : Nat, j ≤ n ∧ i = .int .i64 (j : Int) ∧ Hid (wr.ownsRow w1.heap.size 63 14 v (dropL (E.take j) p).length ((dropL (E.take j) p).flatMap En.cells)) ∧ Hid (Below w1.heap.size w1 wr)) (fun _ i _ => n - (intOf i).toNat)
  case atStart => exact ⟨0, by omega, rfl, World.ownsRow_nil _ _ _ _, Below.refl _ _⟩
  case round =>
    obtain ⟨j, hj, rfl, HO, HB1⟩ := hrel
    by_cases hlt : j < n
    · have l1 : (j : Int) < (n : Int) := by omega
      obtain ⟨g, o, rfl, hr⟩ := (H.out.below HB1.out).rows (by omega)
      have hjl : j < E.length := by rw [H.out.len]; exact hlt
      have q1 := hr j hjl
      have hd := drop_snoc p E j hjl
      have hlen : (dropL (E.take j) p).length ≤ 1000 := by have := dropL_len (E.take j) p; rw [List.length_take] at this; omega
      generalize E[j] = e at *
      have k := heap_below HB1.out K0.out (ltOf K0.out)
      have d0 := cellOf k 0 (v := .int .u32 (p.a : Int)) rfl
      have d1 := cellOf k 1 (v := .int .i64 p.l) rfl
      have c0 : wr.cell? ⟨g, o + j * 14, none⟩ = some (.int .u32 (e.p.a : Int)) := q1 0 _ rfl
      have c1 : wr.cell? ⟨g, o + j * 14 + 1, none⟩ = some (.int .i64 e.p.l) := q1 1 _ rfl
      have hE : ∀ w, (Op.equalIn 10000 44 (.agg #[.int .u32 (e.p.a : Int), .int .i64 e.p.l]) (.agg #[.int .u32 (p.a : Int), .int .i64 p.l])).run Try.prog w = .ok (decide (e.p = p)) w := equal44 e.p p
      have HD := hidp hd
      have HLEN := hidp hlen
      have QE : Hid (wr.drew.rangeAt g (o + j * 14) e.cells) := q1
      have HB2 := hidp (below_drewN HB1.out 1)
      clear hr hjl k q1 hd hlen
      by_cases hq : e.p = p
      · have HO2 : Hid (wr.drew.ownsRow w1.heap.size 63 14 u5 (dropL (E.take (j + 1)) p).length ((dropL (E.take (j + 1)) p).flatMap En.cells)) := by
          show World.ownsRow _ _ _ _ _ _ _
          rw [HD.out, if_pos hq, List.append_nil]
          exact ownsRow_below HO.out (below_drewN (Below.refl wr.heap.size wr) 1) (Nat.le_refl _)
        simp only [decide_eq_true hq] at hE
        clear hq
        go_wp2_with fail
        go_region
        go_wp2
        go_roundw
        case rel => exact ⟨j + 1, by omega, by go_num, HO2, HB2⟩
        case measure => simp [intOf]; omega
      · have HN := hidp hq
        simp only [decide_eq_false hq] at hE
        have hie : Hid ((Try.prog.info? 63).map (·.size) = some e.cells.length) := Try.info63
        have hl14 : e.cells.length = 14 := En.len e
        have HO3 := hidp (ownsRow_below HO.out ((below_drewN (Below.refl wr.heap.size wr) 1).trans ((Below.refl wr.drew.heap.size wr.drew).alloc (Nat.le_refl _) (.cells e.cells.toArray 63))) (Nat.le_refl _))
        have HB3 := hidp (HB2.out.trans (((Below.refl wr.drew.heap.size wr.drew).alloc (Nat.le_refl _) (.cells e.cells.toArray 63)).mono HB2.out.size))
        have hlen := HLEN.out
        clear hq
        go_wp2_with fail
        go_region
        go_wp2_with (first
          | (with_reducible refine wpList_load_mid rfl 63 (.tmp 23) rfl g (o + j * 14) rfl e.cells _ QE.out Try.underlying63 rfl hie.out ?_)
          | (at_builtin; go_must (
             rw [foldEn2]
             refine wpList_append_own_at (wr.drew.alloc (.cells e.cells.toArray 63)) rfl (.tmp 20) (.tmp 25) 27 rfl w1.heap.size 63 i0 zero63 14 144 Try.underlying27 hi0 hz0 hz1 hz2 rfl (by omega) u5 _ _ rfl HO3.out ⟨wr.drew.heap.size, 0, none⟩ 1 1 e.cells rfl rfl (ens_new (heap_alloc_new wr.drew _)) e.one (by simp only [maxLen]; omega) (by omega) HB3.out.size ?_
             intro o4 w4 hown4 hg4 _ hat4
             have HO4 : Hid (w4.ownsRow w1.heap.size 63 14 o4 (dropL (E.take (j + 1)) p).length ((dropL (E.take (j + 1)) p).flatMap En.cells)) := by
               show World.ownsRow _ _ _ _ _ _ _
               rw [HD.out, if_neg HN.out, List.length_append, List.flatMap_append]
               simpa using hown4
             have HB4 := hidp (HB3.out.grown hg4 HB3.out.size fun k hk => (ownsRow_blk HO3.out k hk).1)
             clear hown4 hg4 hat4)))
        go_roundw
        case rel => exact ⟨j + 1, by omega, by go_num, HO4, HB4⟩
        case measure => simp [intOf]; omega
    · have l1 : ¬ (j : Int) < (n : Int) := by omega
      obtain rfl : j = n := by omega
      have ho := HO.out
      rw [List.take_of_length_le (by rw [H.out.len]; omega)] at ho
      have HE := hidp (EnE.of_own ho (dropL_ok H.out.ok))
      clear ho
      go_wp2
      go_ret
      exact ⟨HE.out, HB.out.trans (HB1.out.mono HB.out.size)⟩
/-- the document's Compare -/
def cmp2 (p q : Pf) : Int := if p.a = q.a then (if p.l < q.l then -1 else if q.l < p.l then 1 else 0) else if p.a < q.a then -1 else 1
theorem cmp2_le (p q : Pf) : cmp2 p q ≤ 0 ↔ ¬ ltP q p := by
  unfold cmp2 ltP
  split
  · split
    · omega
    · split <;> omega
  · split <;> omega
set_option maxHeartbeats 2000000 in
theorem cmp2_any (p q : Pf) (w : World) : Calls Try.prog 51 #[p.val, q.val] w fun e w' => e = .returned (.int .i64 (cmp2 p q)) ∧ Below w.heap.size w w' := by
  have hpv : p.val = .agg #[.int .u32 (p.a : Int), .int .i64 p.l] := rfl
  have hqv : q.val = .agg #[.int .u32 (q.a : Int), .int .i64 q.l] := rfl
  rw [hpv, hqv]
  have hB := ((Below.refl w.heap.size w).alloc (Nat.le_refl _) (.cells #[.int .u32 (p.a : Int), .int .i64 p.l] 44)).alloc (by simp) (.cells #[.int .u32 (q.a : Int), .int .i64 q.l] 44)
  have k0 : ((w.alloc (.cells #[.int .u32 (p.a : Int), .int .i64 p.l] 44)).alloc (.cells #[.int .u32 (q.a : Int), .int .i64 q.l] 44)).heap[w.heap.size]? = some (.cells #[.int .u32 (p.a : Int), .int .i64 p.l] 44 (0, 0)) := heap_alloc_at (heap_alloc_new w _) _
  have k1 : ((w.alloc (.cells #[.int .u32 (p.a : Int), .int .i64 p.l] 44)).alloc (.cells #[.int .u32 (q.a : Int), .int .i64 q.l] 44)).heap[w.heap.size + 1]? = some (.cells #[.int .u32 (q.a : Int), .int .i64 q.l] 44 (0, 0)) := heap_alloc_top _ _ _ (by simp)
  have HB := hidp hB
  clear hB hpv hqv
  have HC := hidp (show cmp2 p q = if p.a = q.a then (if p.l < q.l then -1 else if q.l < p.l then 1 else 0) else if p.a < q.a then -1 else 1 from rfl)
  go_enter Try.func51, Try.ntmps51
  go_upto_region 1 with (fail)
  change Code.wp Try.prog _ _ _ ((w.alloc (.cells #[.int .u32 (p.a : Int), .int .i64 p.l] 44)).alloc (.cells #[.int .u32 (q.a : Int), .int .i64 q.l] 44))
  generalize (w.alloc (.cells #[.int .u32 (p.a : Int), .int .i64 p.l] 44)).alloc (.cells #[.int .u32 (q.a : Int), .int .i64 q.l] 44) = w1 at *
  have c0 := cellOf k0 0 (v := .int .u32 (p.a : Int)) rfl
  have c1 := cellOf k0 1 (v := .int .i64 p.l) rfl
  have d0 := cellOf k1 0 (v := .int .u32 (q.a : Int)) rfl
  have d1 := cellOf k1 1 (v := .int .i64 q.l) rfl
  clear k0 k1
  by_cases ha : p.a = q.a
  · have n0 : (p.a : Int) = (q.a : Int) := by rw [ha]
    have HC2 := hidp (show cmp2 p q = (if p.l < q.l then -1 else if q.l < p.l then 1 else 0) by rw [HC.out, if_pos ha])
    clear ha HC
    by_cases h1 : p.l < q.l
    · go_wp2
      go_ret
      exact ⟨by rw [HC2.out, if_pos h1]; rfl, HB.out⟩
    · by_cases h2 : q.l < p.l
      · have HC3 := hidp (show cmp2 p q = 1 by rw [HC2.out, if_neg h1, if_pos h2])
        clear HC2
        go_wp2
        go_ret
        exact ⟨by rw [HC3.out]; rfl, HB.out⟩
      · have HC3 := hidp (show cmp2 p q = 0 by rw [HC2.out, if_neg h1, if_neg h2])
        clear HC2
        go_wp2
        go_ret
        exact ⟨by rw [HC3.out]; rfl, HB.out⟩
  · have n0 : ¬ (p.a : Int) = (q.a : Int) := by omega
    have HC2 := hidp (show cmp2 p q = if p.a < q.a then -1 else 1 by rw [HC.out, if_neg ha])
    clear ha HC
    by_cases h1 : p.a < q.a
    · have n1 : (p.a : Int) < (q.a : Int) := by omega
      have HC3 := hidp (show cmp2 p q = -1 by rw [HC2.out, if_pos h1])
      clear h1 HC2
      go_wp2
      go_ret
      exact ⟨by rw [HC3.out]; rfl, HB.out⟩
    · have n1 : ¬ (p.a : Int) < (q.a : Int) := by omega
      have HC3 := hidp (show cmp2 p q = 1 by rw [HC2.out, if_neg h1])
      clear h1 HC2
      go_wp2
      go_ret
      exact ⟨by rw [HC3.out]; rfl, HB.out⟩
set_option maxRecDepth 100000 in
set_option maxHeartbeats 2000000 in
theorem same22_refl (a b : Option Addr) (n c d : Nat) (l : List Pf) (w : World) (ha : PfsV w a n l) (hb : PfsV w b n l) (hn : n ≤ 1000) :
    Calls Try.prog 22 #[.slice a n c, .slice b n d] w fun e w' => e = .returned (.bool true) ∧ Below w.heap.size w w' := by
  have HX := hidp ha
  have HY := hidp hb
  clear ha hb
  go_enter Try.func22, Try.ntmps22
  go_wp2
  go_loopw [5] (fun i wr => ∃ j : Nat, j ≤ n ∧ i = .int .i64 (j : Int) ∧ Hid (Below w.heap.size w wr)) (fun i _ => n - (intOf i).toNat)
  case atStart => exact ⟨0, by omega, rfl, Below.refl _ _⟩
  case round =>
    obtain ⟨j, hj, rfl, HB⟩ := hrel
    by_cases hlt : j < n
    · have l1 : (j : Int) < (n : Int) := by omega
      obtain ⟨g, o, rfl, hr1⟩ := (HX.out.below HB.out).row (by omega)
      obtain ⟨g', o', rfl, hr2⟩ := (HY.out.below HB.out).row (by omega)
      have hjl : j < l.length := by rw [HX.out.2.1]; exact hlt
      obtain ⟨c0, c1⟩ := hr1 j hjl
      obtain ⟨d0, d1⟩ := hr2 j hjl
      generalize l[j] = q at *
      have hE : ∀ w, (Op.equalIn 10000 44 (.agg #[.int .u32 (q.a : Int), .int .i64 q.l]) (.agg #[.int .u32 (q.a : Int), .int .i64 q.l])).run Try.prog w = .ok true w := fun w => by rw [equal44 q q]; simp
      have HB2 := hidp (below_drewN HB.out 1)
      clear hr1 hr2 hjl
      go_wp2_with fail
      go_region
      go_wp2
      go_roundw
      case rel => exact ⟨j + 1, by omega, by go_num, HB2⟩
      case measure => simp [intOf]; omega
    · have l1 : ¬ (j : Int) < (n : Int) := by omega
      obtain rfl : j = n := by omega
      go_wp2
      go_ret
      exact ⟨rfl, HB.out⟩
end Go.Proofs.Ytnenpfalhbbadaa
