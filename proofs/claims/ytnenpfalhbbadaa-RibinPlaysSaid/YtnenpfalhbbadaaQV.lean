/- attrs.Same. -/
import Derived.Test.YtnenpfalhbbadaaQT
namespace Go.Proofs.Ytnenpfalhbbadaa
open Go.RowKit

set_option maxHeartbeats 1000000 in
theorem same59_any (a b : Att) (w : World) (ha : a.at w) (hb : b.at w) : Calls Try.prog 59 #[.slice a.pa a.pl a.pc, .slice b.pa b.pl b.pc] w fun e w' => e = .returned (.bool (decide (a.segs.map Sg.key = b.segs.map Sg.key))) ∧ Below w.heap.size w w' := by
  have H := hidp (eqf70_any a.pa b.pa a.pl b.pl a.pc b.pc a.segs b.segs w ha.path.1 ha.path.2 hb.path.1 hb.path.2 ha.lens.1 fun s hs t ht W hW => sg71_any s t W ((ha.nums s hs).below hW) ((hb.nums t ht).below hW) (ha.slens s hs) (hb.slens t ht))
  clear ha hb
  go_enter Try.func59, Try.ntmps59
  go_wp2_with (go_at_call 70; go_must (
    refine H.out.mono ?_
    rintro e w1 ⟨rfl, B1⟩
    have HB1 := hidp B1
    clear B1))
  go_ret
  exact ⟨rfl, HB1.out⟩
theorem same63_any (a b : Att) (w : World) (ha : a.at w) (hb : b.at w) : Calls Try.prog 63 #[.slice a.ra a.rl a.rc, .slice b.ra b.rl b.rc, .func (.func 61) #[] #[]] w fun e w' => e = .returned (.bool (decide (a.raws.map Rw.key = b.raws.map Rw.key))) ∧ Below w.heap.size w w' :=
  eqf63_any a.ra b.ra a.rl b.rl a.rc b.rc a.raws b.raws w ha.raws.1 ha.raws.2 hb.raws.1 hb.raws.2 ha.lens.2.2 fun s hs t ht W hW => rw61_any s t W ((ha.bytes s hs).below hW) ((hb.bytes t ht).below hW) (ha.rlens s hs) (hb.rlens t ht)
theorem same60_any (a b : Att) (w : World) (ha : a.at w) (hb : b.at w) : Calls Try.prog 60 #[.slice a.ca a.cl a.cc, .slice b.ca b.cl b.cc] w fun e w' => e = .returned (.bool (decide (a.comms = b.comms))) ∧ Below w.heap.size w w' :=
  eq60_any a.ca b.ca a.cl b.cl a.cc b.cc a.comms b.comms w ha.comms hb.comms ha.lens.2.1 hb.lens.2.1
/-- the attributes' boxes stand -/
structure SB (w : World) (a b : Att) (W : World) : Prop where
  bel : Below w.heap.size w W
  x : W.heap[w.heap.size]? = some (.cells a.cells.toArray 37 (0, 0))
  y : W.heap[w.heap.size + 1]? = some (.cells b.cells.toArray 37 (0, 0))
  ax : a.at W
  bx : b.at W
theorem SB.below {w W W' : World} {a b : Att} (h : SB w a b W) (hB : Below W.heap.size W W') : SB w a b W' :=
  ⟨h.bel.trans (hB.mono h.bel.size), heap_below hB h.x (ltOf h.x), heap_below hB h.y (ltOf h.y), h.ax.below hB, h.bx.below hB⟩
set_option maxRecDepth 100000 in
set_option maxHeartbeats 8000000 in
theorem same45_any : Same45 := by
  intro a b w ha hb
  have hB := ((Below.refl w.heap.size w).alloc (Nat.le_refl _) (.cells a.cells.toArray 37)).alloc (by simp) (.cells b.cells.toArray 37)
  have h0 : SB w a b ((w.alloc (.cells a.cells.toArray 37)).alloc (.cells b.cells.toArray 37)) := ⟨hB, heap_alloc_at (heap_alloc_new w _) _, heap_alloc_top _ _ _ (by simp), ha.below hB, hb.below hB⟩
  have H0 := hidp h0
  have hav : a.val = .agg a.cells.toArray := rfl
  have hbv : b.val = .agg b.cells.toArray := rfl
  rw [hav, hbv]
  clear hB h0 ha hb hav hbv
  go_enter Try.func45, Try.ntmps45
  go_upto_region 1 with (fail)
  change Code.wp Try.prog _ _ _ ((w.alloc (.cells a.cells.toArray 37)).alloc (.cells b.cells.toArray 37))
  generalize (w.alloc (.cells a.cells.toArray 37)).alloc (.cells b.cells.toArray 37) = w0 at *
  have c1 := cellOf H0.out.x 1 (v := .slice a.pa a.pl a.pc) rfl
  have d1 := cellOf H0.out.y 1 (v := .slice b.pa b.pl b.pc) rfl
  obtain ⟨q1, hq1⟩ : ∃ q, decide (a.segs.map Sg.key = b.segs.map Sg.key) = q := ⟨_, rfl⟩
  obtain ⟨q2, hq2⟩ : ∃ q, decide (a.comms = b.comms) = q := ⟨_, rfl⟩
  obtain ⟨q3, hq3⟩ : ∃ q, decide (a.raws.map Rw.key = b.raws.map Rw.key) = q := ⟨_, rfl⟩
  obtain ⟨r1, hr1⟩ : ∃ r, (a.origin == b.origin) = r := ⟨_, rfl⟩
  obtain ⟨r2, hr2⟩ : ∃ r, (a.next == b.next) = r := ⟨_, rfl⟩
  obtain ⟨r3, hr3⟩ : ∃ r, (a.med == b.med) = r := ⟨_, rfl⟩
  obtain ⟨r4, hr4⟩ : ∃ r, (a.pref == b.pref) = r := ⟨_, rfl⟩
  obtain ⟨r5, hr5⟩ : ∃ r, (a.atomic == b.atomic) = r := ⟨_, rfl⟩
  obtain ⟨r6, hr6⟩ : ∃ r, (a.hasAggr == b.hasAggr) = r := ⟨_, rfl⟩
  obtain ⟨r7, hr7⟩ : ∃ r, (a.aas == b.aas) = r := ⟨_, rfl⟩
  obtain ⟨r8, hr8⟩ : ∃ r, (a.aad == b.aad) = r := ⟨_, rfl⟩
  have HR := hidp (show sameA a b = (q1 && q2 && q3 && r1 && r2 && r3 && r4 && r5 && r6 && r7 && r8) by unfold sameA; rw [hq1, hq2, hq3, hr1, hr2, hr3, hr4, hr5, hr6, hr7, hr8])
  have H1 := hidp (fun W (h : SB w a b W) => same59_any a b W h.ax h.bx)
  have H2 := hidp (fun W (h : SB w a b W) => same60_any a b W h.ax h.bx)
  have H3 := hidp (fun W (h : SB w a b W) => same63_any a b W h.ax h.bx)
  rw [hq1] at H1
  rw [hq2] at H2
  rw [hq3] at H3
  clear hq1 hq2 hq3
  cases q1 with
  | false =>
    go_wp2_with (go_at_call 59; go_must (
      refine (H1.out _ H0.out).mono ?_
      rintro e w1 ⟨rfl, B1⟩
      have HS := hidp (H0.out.below B1)
      clear B1 c1 d1))
    go_ret
    exact ⟨by rw [HR.out]; rfl, HS.out.bel⟩
  | true =>
    cases q2 with
    | false =>
      go_wp2_with (first
        | (go_at_call 59; go_must (
           refine (H1.out _ H0.out).mono ?_
           rintro e w1 ⟨rfl, B1⟩
           have HS := hidp (H0.out.below B1)
           have c9 := cellOf HS.out.x 9 (v := .slice a.ca a.cl a.cc) rfl
           have d9 := cellOf HS.out.y 9 (v := .slice b.ca b.cl b.cc) rfl
           clear B1 c1 d1))
        | (go_at_call 60; go_must (
           refine (H2.out _ HS.out).mono ?_
           rintro e w2 ⟨rfl, B2⟩
           have HS2 := hidp (HS.out.below B2)
           clear B2 c9 d9)))
      go_ret
      exact ⟨by rw [HR.out]; rfl, HS2.out.bel⟩
    | true =>
      go_upto_region 4 with (first
        | (go_at_call 59; go_must (
           refine (H1.out _ H0.out).mono ?_
           rintro e w1 ⟨rfl, B1⟩
           have HS := hidp (H0.out.below B1)
           have c9 := cellOf HS.out.x 9 (v := .slice a.ca a.cl a.cc) rfl
           have d9 := cellOf HS.out.y 9 (v := .slice b.ca b.cl b.cc) rfl
           clear B1 c1 d1))
        | (go_at_call 60; go_must (
           refine (H2.out _ HS.out).mono ?_
           rintro e w2 ⟨rfl, B2⟩
           have HS2 := hidp (HS.out.below B2)
           clear B2 c9 d9)))
      have c10 := cellOf HS2.out.x 10 (v := .slice a.ra a.rl a.rc) rfl
      have d10 := cellOf HS2.out.y 10 (v := .slice b.ra b.rl b.rc) rfl
      cases q3 with
      | false =>
        go_wp2_with (go_at_call 63; go_must (
          refine (H3.out _ HS2.out).mono ?_
          rintro e w3 ⟨rfl, B3⟩
          have HS3 := hidp (HS2.out.below B3)
          have x0 := cellOf HS3.out.x 0 (v := .int .i64 a.origin) rfl
          have y0 := cellOf HS3.out.y 0 (v := .int .i64 b.origin) rfl
          have x2 := cellOf HS3.out.x 2 (v := .int .u32 a.next) rfl
          have y2 := cellOf HS3.out.y 2 (v := .int .u32 b.next) rfl
          have x3 := cellOf HS3.out.x 3 (v := .int .i64 a.med) rfl
          have y3 := cellOf HS3.out.y 3 (v := .int .i64 b.med) rfl
          have x4 := cellOf HS3.out.x 4 (v := .int .i64 a.pref) rfl
          have y4 := cellOf HS3.out.y 4 (v := .int .i64 b.pref) rfl
          have x5 := cellOf HS3.out.x 5 (v := .bool a.atomic) rfl
          have y5 := cellOf HS3.out.y 5 (v := .bool b.atomic) rfl
          have x6 := cellOf HS3.out.x 6 (v := .bool a.hasAggr) rfl
          have y6 := cellOf HS3.out.y 6 (v := .bool b.hasAggr) rfl
          have x7 := cellOf HS3.out.x 7 (v := .int .u32 a.aas) rfl
          have y7 := cellOf HS3.out.y 7 (v := .int .u32 b.aas) rfl
          have x8 := cellOf HS3.out.x 8 (v := .int .u32 a.aad) rfl
          have y8 := cellOf HS3.out.y 8 (v := .int .u32 b.aad) rfl
          clear B3 c10 d10))
        go_ret
        exact ⟨by rw [HR.out]; rfl, HS3.out.bel⟩
      | true =>
        cases r1 with
        | false =>
          have n1 : ¬ a.origin = b.origin := by simpa using hr1
          go_wp2_with (go_at_call 63; go_must (
            refine (H3.out _ HS2.out).mono ?_
            rintro e w3 ⟨rfl, B3⟩
            have HS3 := hidp (HS2.out.below B3)
            have x0 := cellOf HS3.out.x 0 (v := .int .i64 a.origin) rfl
            have y0 := cellOf HS3.out.y 0 (v := .int .i64 b.origin) rfl
            have x2 := cellOf HS3.out.x 2 (v := .int .u32 a.next) rfl
            have y2 := cellOf HS3.out.y 2 (v := .int .u32 b.next) rfl
            have x3 := cellOf HS3.out.x 3 (v := .int .i64 a.med) rfl
            have y3 := cellOf HS3.out.y 3 (v := .int .i64 b.med) rfl
            have x4 := cellOf HS3.out.x 4 (v := .int .i64 a.pref) rfl
            have y4 := cellOf HS3.out.y 4 (v := .int .i64 b.pref) rfl
            have x5 := cellOf HS3.out.x 5 (v := .bool a.atomic) rfl
            have y5 := cellOf HS3.out.y 5 (v := .bool b.atomic) rfl
            have x6 := cellOf HS3.out.x 6 (v := .bool a.hasAggr) rfl
            have y6 := cellOf HS3.out.y 6 (v := .bool b.hasAggr) rfl
            have x7 := cellOf HS3.out.x 7 (v := .int .u32 a.aas) rfl
            have y7 := cellOf HS3.out.y 7 (v := .int .u32 b.aas) rfl
            have x8 := cellOf HS3.out.x 8 (v := .int .u32 a.aad) rfl
            have y8 := cellOf HS3.out.y 8 (v := .int .u32 b.aad) rfl
            clear B3 c10 d10))
          go_ret
          exact ⟨by rw [HR.out]; rfl, HS3.out.bel⟩
        | true =>
          have n1 : a.origin = b.origin := by simpa using hr1
          cases r2 with
          | false =>
            have n2 : ¬ a.next = b.next := by simpa using hr2
            go_wp2_with (go_at_call 63; go_must (
              refine (H3.out _ HS2.out).mono ?_
              rintro e w3 ⟨rfl, B3⟩
              have HS3 := hidp (HS2.out.below B3)
              have x0 := cellOf HS3.out.x 0 (v := .int .i64 a.origin) rfl
              have y0 := cellOf HS3.out.y 0 (v := .int .i64 b.origin) rfl
              have x2 := cellOf HS3.out.x 2 (v := .int .u32 a.next) rfl
              have y2 := cellOf HS3.out.y 2 (v := .int .u32 b.next) rfl
              have x3 := cellOf HS3.out.x 3 (v := .int .i64 a.med) rfl
              have y3 := cellOf HS3.out.y 3 (v := .int .i64 b.med) rfl
              have x4 := cellOf HS3.out.x 4 (v := .int .i64 a.pref) rfl
              have y4 := cellOf HS3.out.y 4 (v := .int .i64 b.pref) rfl
              have x5 := cellOf HS3.out.x 5 (v := .bool a.atomic) rfl
              have y5 := cellOf HS3.out.y 5 (v := .bool b.atomic) rfl
              have x6 := cellOf HS3.out.x 6 (v := .bool a.hasAggr) rfl
              have y6 := cellOf HS3.out.y 6 (v := .bool b.hasAggr) rfl
              have x7 := cellOf HS3.out.x 7 (v := .int .u32 a.aas) rfl
              have y7 := cellOf HS3.out.y 7 (v := .int .u32 b.aas) rfl
              have x8 := cellOf HS3.out.x 8 (v := .int .u32 a.aad) rfl
              have y8 := cellOf HS3.out.y 8 (v := .int .u32 b.aad) rfl
              clear B3 c10 d10))
            go_ret
            exact ⟨by rw [HR.out]; rfl, HS3.out.bel⟩
          | true =>
            have n2 : a.next = b.next := by simpa using hr2
            cases r3 with
            | false =>
              have n3 : ¬ a.med = b.med := by simpa using hr3
              go_wp2_with (go_at_call 63; go_must (
                refine (H3.out _ HS2.out).mono ?_
                rintro e w3 ⟨rfl, B3⟩
                have HS3 := hidp (HS2.out.below B3)
                have x0 := cellOf HS3.out.x 0 (v := .int .i64 a.origin) rfl
                have y0 := cellOf HS3.out.y 0 (v := .int .i64 b.origin) rfl
                have x2 := cellOf HS3.out.x 2 (v := .int .u32 a.next) rfl
                have y2 := cellOf HS3.out.y 2 (v := .int .u32 b.next) rfl
                have x3 := cellOf HS3.out.x 3 (v := .int .i64 a.med) rfl
                have y3 := cellOf HS3.out.y 3 (v := .int .i64 b.med) rfl
                have x4 := cellOf HS3.out.x 4 (v := .int .i64 a.pref) rfl
                have y4 := cellOf HS3.out.y 4 (v := .int .i64 b.pref) rfl
                have x5 := cellOf HS3.out.x 5 (v := .bool a.atomic) rfl
                have y5 := cellOf HS3.out.y 5 (v := .bool b.atomic) rfl
                have x6 := cellOf HS3.out.x 6 (v := .bool a.hasAggr) rfl
                have y6 := cellOf HS3.out.y 6 (v := .bool b.hasAggr) rfl
                have x7 := cellOf HS3.out.x 7 (v := .int .u32 a.aas) rfl
                have y7 := cellOf HS3.out.y 7 (v := .int .u32 b.aas) rfl
                have x8 := cellOf HS3.out.x 8 (v := .int .u32 a.aad) rfl
                have y8 := cellOf HS3.out.y 8 (v := .int .u32 b.aad) rfl
                clear B3 c10 d10))
              go_ret
              exact ⟨by rw [HR.out]; rfl, HS3.out.bel⟩
            | true =>
              have n3 : a.med = b.med := by simpa using hr3
              cases r4 with
              | false =>
                have n4 : ¬ a.pref = b.pref := by simpa using hr4
                go_wp2_with (go_at_call 63; go_must (
                  refine (H3.out _ HS2.out).mono ?_
                  rintro e w3 ⟨rfl, B3⟩
                  have HS3 := hidp (HS2.out.below B3)
                  have x0 := cellOf HS3.out.x 0 (v := .int .i64 a.origin) rfl
                  have y0 := cellOf HS3.out.y 0 (v := .int .i64 b.origin) rfl
                  have x2 := cellOf HS3.out.x 2 (v := .int .u32 a.next) rfl
                  have y2 := cellOf HS3.out.y 2 (v := .int .u32 b.next) rfl
                  have x3 := cellOf HS3.out.x 3 (v := .int .i64 a.med) rfl
                  have y3 := cellOf HS3.out.y 3 (v := .int .i64 b.med) rfl
                  have x4 := cellOf HS3.out.x 4 (v := .int .i64 a.pref) rfl
                  have y4 := cellOf HS3.out.y 4 (v := .int .i64 b.pref) rfl
                  have x5 := cellOf HS3.out.x 5 (v := .bool a.atomic) rfl
                  have y5 := cellOf HS3.out.y 5 (v := .bool b.atomic) rfl
                  have x6 := cellOf HS3.out.x 6 (v := .bool a.hasAggr) rfl
                  have y6 := cellOf HS3.out.y 6 (v := .bool b.hasAggr) rfl
                  have x7 := cellOf HS3.out.x 7 (v := .int .u32 a.aas) rfl
                  have y7 := cellOf HS3.out.y 7 (v := .int .u32 b.aas) rfl
                  have x8 := cellOf HS3.out.x 8 (v := .int .u32 a.aad) rfl
                  have y8 := cellOf HS3.out.y 8 (v := .int .u32 b.aad) rfl
                  clear B3 c10 d10))
                go_ret
                exact ⟨by rw [HR.out]; rfl, HS3.out.bel⟩
              | true =>
                have n4 : a.pref = b.pref := by simpa using hr4
                cases r5 with
                | false =>
                  have n5 : ¬ a.atomic = b.atomic := by simpa using hr5
                  go_wp2_with (go_at_call 63; go_must (
                    refine (H3.out _ HS2.out).mono ?_
                    rintro e w3 ⟨rfl, B3⟩
                    have HS3 := hidp (HS2.out.below B3)
                    have x0 := cellOf HS3.out.x 0 (v := .int .i64 a.origin) rfl
                    have y0 := cellOf HS3.out.y 0 (v := .int .i64 b.origin) rfl
                    have x2 := cellOf HS3.out.x 2 (v := .int .u32 a.next) rfl
                    have y2 := cellOf HS3.out.y 2 (v := .int .u32 b.next) rfl
                    have x3 := cellOf HS3.out.x 3 (v := .int .i64 a.med) rfl
                    have y3 := cellOf HS3.out.y 3 (v := .int .i64 b.med) rfl
                    have x4 := cellOf HS3.out.x 4 (v := .int .i64 a.pref) rfl
                    have y4 := cellOf HS3.out.y 4 (v := .int .i64 b.pref) rfl
                    have x5 := cellOf HS3.out.x 5 (v := .bool a.atomic) rfl
                    have y5 := cellOf HS3.out.y 5 (v := .bool b.atomic) rfl
                    have x6 := cellOf HS3.out.x 6 (v := .bool a.hasAggr) rfl
                    have y6 := cellOf HS3.out.y 6 (v := .bool b.hasAggr) rfl
                    have x7 := cellOf HS3.out.x 7 (v := .int .u32 a.aas) rfl
                    have y7 := cellOf HS3.out.y 7 (v := .int .u32 b.aas) rfl
                    have x8 := cellOf HS3.out.x 8 (v := .int .u32 a.aad) rfl
                    have y8 := cellOf HS3.out.y 8 (v := .int .u32 b.aad) rfl
                    clear B3 c10 d10))
                  go_ret
                  exact ⟨by rw [HR.out]; rfl, HS3.out.bel⟩
                | true =>
                  have n5 : a.atomic = b.atomic := by simpa using hr5
                  cases r6 with
                  | false =>
                    have n6 : ¬ a.hasAggr = b.hasAggr := by simpa using hr6
                    go_wp2_with (go_at_call 63; go_must (
                      refine (H3.out _ HS2.out).mono ?_
                      rintro e w3 ⟨rfl, B3⟩
                      have HS3 := hidp (HS2.out.below B3)
                      have x0 := cellOf HS3.out.x 0 (v := .int .i64 a.origin) rfl
                      have y0 := cellOf HS3.out.y 0 (v := .int .i64 b.origin) rfl
                      have x2 := cellOf HS3.out.x 2 (v := .int .u32 a.next) rfl
                      have y2 := cellOf HS3.out.y 2 (v := .int .u32 b.next) rfl
                      have x3 := cellOf HS3.out.x 3 (v := .int .i64 a.med) rfl
                      have y3 := cellOf HS3.out.y 3 (v := .int .i64 b.med) rfl
                      have x4 := cellOf HS3.out.x 4 (v := .int .i64 a.pref) rfl
                      have y4 := cellOf HS3.out.y 4 (v := .int .i64 b.pref) rfl
                      have x5 := cellOf HS3.out.x 5 (v := .bool a.atomic) rfl
                      have y5 := cellOf HS3.out.y 5 (v := .bool b.atomic) rfl
                      have x6 := cellOf HS3.out.x 6 (v := .bool a.hasAggr) rfl
                      have y6 := cellOf HS3.out.y 6 (v := .bool b.hasAggr) rfl
                      have x7 := cellOf HS3.out.x 7 (v := .int .u32 a.aas) rfl
                      have y7 := cellOf HS3.out.y 7 (v := .int .u32 b.aas) rfl
                      have x8 := cellOf HS3.out.x 8 (v := .int .u32 a.aad) rfl
                      have y8 := cellOf HS3.out.y 8 (v := .int .u32 b.aad) rfl
                      clear B3 c10 d10))
                    go_ret
                    exact ⟨by rw [HR.out]; rfl, HS3.out.bel⟩
                  | true =>
                    have n6 : a.hasAggr = b.hasAggr := by simpa using hr6
                    cases r7 with
                    | false =>
                      have n7 : ¬ a.aas = b.aas := by simpa using hr7
                      go_wp2_with (go_at_call 63; go_must (
                        refine (H3.out _ HS2.out).mono ?_
                        rintro e w3 ⟨rfl, B3⟩
                        have HS3 := hidp (HS2.out.below B3)
                        have x0 := cellOf HS3.out.x 0 (v := .int .i64 a.origin) rfl
                        have y0 := cellOf HS3.out.y 0 (v := .int .i64 b.origin) rfl
                        have x2 := cellOf HS3.out.x 2 (v := .int .u32 a.next) rfl
                        have y2 := cellOf HS3.out.y 2 (v := .int .u32 b.next) rfl
                        have x3 := cellOf HS3.out.x 3 (v := .int .i64 a.med) rfl
                        have y3 := cellOf HS3.out.y 3 (v := .int .i64 b.med) rfl
                        have x4 := cellOf HS3.out.x 4 (v := .int .i64 a.pref) rfl
                        have y4 := cellOf HS3.out.y 4 (v := .int .i64 b.pref) rfl
                        have x5 := cellOf HS3.out.x 5 (v := .bool a.atomic) rfl
                        have y5 := cellOf HS3.out.y 5 (v := .bool b.atomic) rfl
                        have x6 := cellOf HS3.out.x 6 (v := .bool a.hasAggr) rfl
                        have y6 := cellOf HS3.out.y 6 (v := .bool b.hasAggr) rfl
                        have x7 := cellOf HS3.out.x 7 (v := .int .u32 a.aas) rfl
                        have y7 := cellOf HS3.out.y 7 (v := .int .u32 b.aas) rfl
                        have x8 := cellOf HS3.out.x 8 (v := .int .u32 a.aad) rfl
                        have y8 := cellOf HS3.out.y 8 (v := .int .u32 b.aad) rfl
                        clear B3 c10 d10))
                      go_ret
                      exact ⟨by rw [HR.out]; rfl, HS3.out.bel⟩
                    | true =>
                      have n7 : a.aas = b.aas := by simpa using hr7
                      cases r8 with
                      | false =>
                        have n8 : ¬ a.aad = b.aad := by simpa using hr8
                        go_wp2_with (go_at_call 63; go_must (
                          refine (H3.out _ HS2.out).mono ?_
                          rintro e w3 ⟨rfl, B3⟩
                          have HS3 := hidp (HS2.out.below B3)
                          have x0 := cellOf HS3.out.x 0 (v := .int .i64 a.origin) rfl
                          have y0 := cellOf HS3.out.y 0 (v := .int .i64 b.origin) rfl
                          have x2 := cellOf HS3.out.x 2 (v := .int .u32 a.next) rfl
                          have y2 := cellOf HS3.out.y 2 (v := .int .u32 b.next) rfl
                          have x3 := cellOf HS3.out.x 3 (v := .int .i64 a.med) rfl
                          have y3 := cellOf HS3.out.y 3 (v := .int .i64 b.med) rfl
                          have x4 := cellOf HS3.out.x 4 (v := .int .i64 a.pref) rfl
                          have y4 := cellOf HS3.out.y 4 (v := .int .i64 b.pref) rfl
                          have x5 := cellOf HS3.out.x 5 (v := .bool a.atomic) rfl
                          have y5 := cellOf HS3.out.y 5 (v := .bool b.atomic) rfl
                          have x6 := cellOf HS3.out.x 6 (v := .bool a.hasAggr) rfl
                          have y6 := cellOf HS3.out.y 6 (v := .bool b.hasAggr) rfl
                          have x7 := cellOf HS3.out.x 7 (v := .int .u32 a.aas) rfl
                          have y7 := cellOf HS3.out.y 7 (v := .int .u32 b.aas) rfl
                          have x8 := cellOf HS3.out.x 8 (v := .int .u32 a.aad) rfl
                          have y8 := cellOf HS3.out.y 8 (v := .int .u32 b.aad) rfl
                          clear B3 c10 d10))
                        go_ret
                        exact ⟨by rw [HR.out]; rfl, HS3.out.bel⟩
                      | true =>
                        have n8 : a.aad = b.aad := by simpa using hr8
                        go_wp2_with (go_at_call 63; go_must (
                          refine (H3.out _ HS2.out).mono ?_
                          rintro e w3 ⟨rfl, B3⟩
                          have HS3 := hidp (HS2.out.below B3)
                          have x0 := cellOf HS3.out.x 0 (v := .int .i64 a.origin) rfl
                          have y0 := cellOf HS3.out.y 0 (v := .int .i64 b.origin) rfl
                          have x2 := cellOf HS3.out.x 2 (v := .int .u32 a.next) rfl
                          have y2 := cellOf HS3.out.y 2 (v := .int .u32 b.next) rfl
                          have x3 := cellOf HS3.out.x 3 (v := .int .i64 a.med) rfl
                          have y3 := cellOf HS3.out.y 3 (v := .int .i64 b.med) rfl
                          have x4 := cellOf HS3.out.x 4 (v := .int .i64 a.pref) rfl
                          have y4 := cellOf HS3.out.y 4 (v := .int .i64 b.pref) rfl
                          have x5 := cellOf HS3.out.x 5 (v := .bool a.atomic) rfl
                          have y5 := cellOf HS3.out.y 5 (v := .bool b.atomic) rfl
                          have x6 := cellOf HS3.out.x 6 (v := .bool a.hasAggr) rfl
                          have y6 := cellOf HS3.out.y 6 (v := .bool b.hasAggr) rfl
                          have x7 := cellOf HS3.out.x 7 (v := .int .u32 a.aas) rfl
                          have y7 := cellOf HS3.out.y 7 (v := .int .u32 b.aas) rfl
                          have x8 := cellOf HS3.out.x 8 (v := .int .u32 a.aad) rfl
                          have y8 := cellOf HS3.out.y 8 (v := .int .u32 b.aad) rfl
                          clear B3 c10 d10))
                        go_ret
                        exact ⟨by rw [HR.out]; rfl, HS3.out.bel⟩
end Go.Proofs.Ytnenpfalhbbadaa
