/- The document's Same of attributes. -/
import Derived.Test.YtnenpfalhbbadaaSA
import Derived.Test.YtnenpfalhbbadaaQV
namespace Go.Proofs.Ytnenpfalhbbadaa
open Go.RowKit

theorem same36_att (a b : Att) (w : World) (ha : a.at w) (hb : b.at w) : Calls Try.prog 36 #[.slice a.pa a.pl a.pc, .slice b.pa b.pl b.pc] w fun e w' => e = .returned (.bool (decide (a.segs.map Sg.key = b.segs.map Sg.key))) ∧ Below w.heap.size w w' :=
  same36_any a.pa b.pa a.pl b.pl a.pc b.pc a.segs b.segs w ha.path.1 ha.path.2 hb.path.1 hb.path.2 ha.lens.1 fun s hs t ht W hW => nums37_any s.a t.a s.n t.n s.c t.c s.nums t.nums W ((ha.nums s hs).below hW) ((hb.nums t ht).below hW) (ha.slens s hs)
theorem same37_att (a b : Att) (w : World) (ha : a.at w) (hb : b.at w) : Calls Try.prog 37 #[.slice a.ca a.cl a.cc, .slice b.ca b.cl b.cc] w fun e w' => e = .returned (.bool (decide (a.comms = b.comms))) ∧ Below w.heap.size w w' :=
  nums37_any a.ca b.ca a.cl b.cl a.cc b.cc a.comms b.comms w ha.comms hb.comms ha.lens.2.1
set_option maxRecDepth 100000 in
set_option maxHeartbeats 8000000 in
theorem same20_any (a b : Att) (w : World) (ha : a.at w) (hb : b.at w) : Calls Try.prog 20 #[a.val, b.val] w fun e w' => e = .returned (.bool (sameA a b)) ∧ Below w.heap.size w w' := by
  have hB := ((Below.refl w.heap.size w).alloc (Nat.le_refl _) (.cells a.cells.toArray 37)).alloc (by simp) (.cells b.cells.toArray 37)
  have h0 : SB w a b ((w.alloc (.cells a.cells.toArray 37)).alloc (.cells b.cells.toArray 37)) := ⟨hB, heap_alloc_at (heap_alloc_new w _) _, heap_alloc_top _ _ _ (by simp), ha.below hB, hb.below hB⟩
  have H0 := hidp h0
  have hav : a.val = .agg a.cells.toArray := rfl
  have hbv : b.val = .agg b.cells.toArray := rfl
  rw [hav, hbv]
  clear hB h0 ha hb hav hbv
  go_enter Try.func20, Try.ntmps20
  go_upto_region 1 with (fail)
  change Code.wp Try.prog _ _ _ ((w.alloc (.cells a.cells.toArray 37)).alloc (.cells b.cells.toArray 37))
  generalize (w.alloc (.cells a.cells.toArray 37)).alloc (.cells b.cells.toArray 37) = w0 at *
  have c10 := cellOf H0.out.x 10 (v := .slice a.ra a.rl a.rc) rfl
  have d10 := cellOf H0.out.y 10 (v := .slice b.ra b.rl b.rc) rfl
  have c1 := cellOf H0.out.x 1 (v := .slice a.pa a.pl a.pc) rfl
  have d1 := cellOf H0.out.y 1 (v := .slice b.pa b.pl b.pc) rfl
  obtain ⟨q1, hq1⟩ : ∃ q, decide (a.segs.map Sg.key = b.segs.map Sg.key) = q := ⟨_, rfl⟩
  obtain ⟨q2, hq2⟩ : ∃ q, decide (a.comms = b.comms) = q := ⟨_, rfl⟩
  obtain ⟨q3, hq3⟩ : ∃ q, decide (a.raws.map Rw.key = b.raws.map Rw.key) = q := ⟨_, rfl⟩
  obtain ⟨r1, hr1⟩ : ∃ r, (a.origin == b.origin) = r := ⟨_, rfl⟩
  obtain ⟨r2, hr2⟩ : ∃ r, (a.next == b.next) = r := ⟨_, rfl⟩
  obtain ⟨r3, hr3⟩ : ∃ r, (a.med == b.med) = r := ⟨_, rfl⟩
  obtain ⟨r4, hr4⟩ : ∃ r, (a.pref == b.pref) = r := ⟨_, rfl⟩
  obtain ⟨r5, hr5⟩ : ∃ r, (a.atomic == b.atomic) = r := ⟨_, rfl⟩
  obtain ⟨r6, hr6⟩ : ∃ r, (a.hasAggr == b.hasAggr) = r := ⟨_, rfl⟩
  obtain ⟨r7, hr7⟩ : ∃ r, (a.aas == b.aas) = r := ⟨_, rfl⟩
  obtain ⟨r8, hr8⟩ : ∃ r, (a.aad == b.aad) = r := ⟨_, rfl⟩
  have HR := hidp (show sameA a b = (q1 && q2 && q3 && r1 && r2 && r3 && r4 && r5 && r6 && r7 && r8) by unfold sameA; rw [hq1, hq2, hq3, hr1, hr2, hr3, hr4, hr5, hr6, hr7, hr8])
  have H1 := hidp (fun W (h : SB w a b W) => same36_att a b W h.ax h.bx)
  have H2 := hidp (fun W (h : SB w a b W) => same37_att a b W h.ax h.bx)
  rw [hq1] at H1
  rw [hq2] at H2
  have HQ3 := hidp hq3
  clear hq1 hq2 hq3
  by_cases hl : a.rl = b.rl
  · have n0 : (a.rl : Int) = (b.rl : Int) := by rw [hl]
    have HLL := hidp hl
    clear hl
    cases q1 with
    | false =>
      go_wp2_with (go_at_call 36; go_must (
        refine (H1.out _ H0.out).mono ?_
        rintro e w1 ⟨rfl, B1⟩
        have HS := hidp (H0.out.below B1)
        clear B1 c1 d1 c10 d10))
      go_ret
      exact ⟨by rw [HR.out]; rfl, HS.out.bel⟩
    | true =>
      cases q2 with
      | false =>
        go_wp2_with (first
          | (go_at_call 36; go_must (
             refine (H1.out _ H0.out).mono ?_
             rintro e w1 ⟨rfl, B1⟩
             have HS := hidp (H0.out.below B1)
             have c9 := cellOf HS.out.x 9 (v := .slice a.ca a.cl a.cc) rfl
             have d9 := cellOf HS.out.y 9 (v := .slice b.ca b.cl b.cc) rfl
             clear B1 c1 d1 c10 d10))
          | (go_at_call 37; go_must (
             refine (H2.out _ HS.out).mono ?_
             rintro e w2 ⟨rfl, B2⟩
             have HS2 := hidp (HS.out.below B2)
             clear B2 c9 d9)))
        go_ret
        exact ⟨by rw [HR.out]; rfl, HS2.out.bel⟩
      | true =>
        go_wp2_with (first
          | (go_at_call 36; go_must (
             refine (H1.out _ H0.out).mono ?_
             rintro e w1 ⟨rfl, B1⟩
             have HS1 := hidp (H0.out.below B1)
             have c9 := cellOf HS1.out.x 9 (v := .slice a.ca a.cl a.cc) rfl
             have d9 := cellOf HS1.out.y 9 (v := .slice b.ca b.cl b.cc) rfl
             clear B1 c1 d1 c10 d10))
          | (go_at_call 37; go_must (
             refine (H2.out _ HS1.out).mono ?_
             rintro e w2 ⟨rfl, B2⟩
             have HS2 := hidp (HS1.out.below B2)
             clear B2 c9 d9)))
        have hbnd : a.rl ≤ 9223372036854775807 := HS2.out.ax.lens.2.2
        go_loopw [5] (fun i wr => ∃ j : Nat, j ≤ a.rl ∧ i = .int .i64 j ∧ Hid ((a.raws.take j).map Rw.key = (b.raws.take j).map Rw.key) ∧ Hid (SB w a b wr)) (fun i _ => a.rl - (intOf i).toNat)
        case atStart => exact ⟨0, by omega, rfl, rfl, HS2.out⟩
        case round =>
        obtain ⟨j, hj, rfl, HP, HS⟩ := hrel
        have x10 := cellOf HS.out.x 10 (v := .slice a.ra a.rl a.rc) rfl
        by_cases hlt : j < a.rl
        · have y10 := cellOf HS.out.y 10 (v := .slice b.ra b.rl b.rc) rfl
          obtain ⟨g, o, eg, hc⟩ := HS.out.ax.raws.1.2 (by omega)
          obtain ⟨g', o', eg', hc'⟩ := HS.out.bx.raws.1.2 (by have := HLL.out; omega)
          rw [eg] at x10
          rw [eg'] at y10
          have jx : j < a.raws.length := by rw [HS.out.ax.raws.2]; exact hlt
          have jy : j < b.raws.length := by rw [HS.out.bx.raws.2, ← HLL.out]; exact hlt
          have c0 := hc (j * 3 + 0) _ (flat_get Rw.cells 3 (fun _ => rfl) a.raws j 0 jx (by decide))
          have d0 := hc' (j * 3 + 0) _ (flat_get Rw.cells 3 (fun _ => rfl) b.raws j 0 jy (by decide))
          have c1 := hc (j * 3 + 1) _ (flat_get Rw.cells 3 (fun _ => rfl) a.raws j 1 jx (by decide))
          have d1 := hc' (j * 3 + 1) _ (flat_get Rw.cells 3 (fun _ => rfl) b.raws j 1 jy (by decide))
          have c2 := hc (j * 3 + 2) _ (flat_get Rw.cells 3 (fun _ => rfl) a.raws j 2 jx (by decide))
          have d2 := hc' (j * 3 + 2) _ (flat_get Rw.cells 3 (fun _ => rfl) b.raws j 2 jy (by decide))
          rw [Nat.add_zero] at c0 d0
          rw [← Nat.add_assoc] at c1 d1 c2 d2
          have HN0 := hidp (show a.raws[j].key = b.raws[j].key → (a.raws.take (j + 1)).map Rw.key = (b.raws.take (j + 1)).map Rw.key from fun h => by rw [List.take_add_one, List.take_add_one, List.map_append, List.map_append, HP.out, List.getElem?_eq_getElem jx, List.getElem?_eq_getElem jy]; simp [h])
          have HM0 := hidp (show a.raws[j].key ≠ b.raws[j].key → sameA a b = false from fun h => by
            have h3 : decide (a.raws.map Rw.key = b.raws.map Rw.key) = false := by
              simp only [decide_eq_false_iff_not]
              intro e
              apply h
              have e2 : (a.raws.map Rw.key)[j]? = (b.raws.map Rw.key)[j]? := by rw [e]
              rw [List.getElem?_map, List.getElem?_map, List.getElem?_eq_getElem jx, List.getElem?_eq_getElem jy] at e2
              simpa using e2
            rw [HR.out, ← HQ3.out, h3]
            simp)
          have HC0 := hidp (fun W (hW : Below wr.heap.size wr W) => same38_any a.raws[j].a b.raws[j].a a.raws[j].n b.raws[j].n a.raws[j].c b.raws[j].c a.raws[j].bytes b.raws[j].bytes W ((HS.out.ax.bytes _ (List.getElem_mem jx)).below hW) ((HS.out.bx.bytes _ (List.getElem_mem jy)).below hW) (HS.out.ax.brange _ (List.getElem_mem jx)) (HS.out.bx.brange _ (List.getElem_mem jy)))
          generalize a.raws[j] = s at *
          generalize b.raws[j] = t at *
          have HC := HC0
          have C0 := hidp (fun W (hW : Below wr.heap.size wr W) => below_cell hW (Nat.le_refl _) _ _ c0)
          have D0 := hidp (fun W (hW : Below wr.heap.size wr W) => below_cell hW (Nat.le_refl _) _ _ d0)
          have C1 := hidp (fun W (hW : Below wr.heap.size wr W) => below_cell hW (Nat.le_refl _) _ _ c1)
          have D1 := hidp (fun W (hW : Below wr.heap.size wr W) => below_cell hW (Nat.le_refl _) _ _ d1)
          have C2 := hidp (fun W (hW : Below wr.heap.size wr W) => below_cell hW (Nat.le_refl _) _ _ c2)
          have D2 := hidp (fun W (hW : Below wr.heap.size wr W) => below_cell hW (Nat.le_refl _) _ _ d2)
          have X10 := hidp (fun W (hW : Below wr.heap.size wr W) => below_cell hW (Nat.le_refl _) _ _ x10)
          have Y10 := hidp (fun W (hW : Below wr.heap.size wr W) => below_cell hW (Nat.le_refl _) _ _ y10)
          have l1 : (j : Int) < (a.rl : Int) := by omega
          have l2 : (j : Int) < (b.rl : Int) := by rw [← n0]; exact l1
          have L1 := hidp l1
          have L2 := hidp l2
          clear hc hc' jx jy c0 d0 c1 d1 c2 d2 HC0 y10 eg eg'
          by_cases hf : s.flags = t.flags
          · have HF := hidp (show (s.flags != t.flags) = false by simp [hf])
            by_cases hk : s.type = t.type
            · have HT := hidp (show (s.type != t.type) = false by simp [hk])
              have HN := hidp (show s.bytes = t.bytes → _ from fun h => HN0.out (by simp [Rw.key, hk, hf, h]))
              have HM := hidp (show s.bytes ≠ t.bytes → _ from fun h => HM0.out (by simp [Rw.key, hk, hf, h]))
              clear HN0 HM0 hk hf
              go_upto_region 6 with (fail)
              refine wp_region_flow2 (fun iqv => ([(.pointer (some ⟨w.heap.size, 10, none⟩) : Value), (.slice (some ⟨g, o, none⟩) a.rl a.rc : Value), (.int .i64 (j : Int) : Value), (.pointer (some ⟨g, o + j * 3, none⟩) : Value), (.pointer (some ⟨g, o + j * 3, none⟩) : Value), (.int .i64 s.flags : Value), (.pointer (some ⟨w.heap.size + 1, 10, none⟩) : Value), (.slice (some ⟨g', o', none⟩) b.rl b.rc : Value), (.int .i64 (j : Int) : Value), (.pointer (some ⟨g', o' + j * 3, none⟩) : Value), (.pointer (some ⟨g', o' + j * 3, none⟩) : Value), (.int .i64 t.flags : Value), (.bool false : Value), (.bool false : Value), (.pointer (some ⟨w.heap.size, 10, none⟩) : Value), (.slice (some ⟨g, o, none⟩) a.rl a.rc : Value), (.int .i64 (j : Int) : Value), (.pointer (some ⟨g, o + j * 3, none⟩) : Value), (.pointer (some ⟨g, o + j * 3 + 1, none⟩) : Value), (.int .i64 s.type : Value), (.pointer (some ⟨w.heap.size + 1, 10, none⟩) : Value), (.slice (some ⟨g', o', none⟩) b.rl b.rc : Value), (.int .i64 (j : Int) : Value), (.pointer (some ⟨g', o' + j * 3, none⟩) : Value), (.pointer (some ⟨g', o' + j * 3 + 1, none⟩) : Value), (.int .i64 t.type : Value), (.bool false : Value), (.bool false : Value), (.bool false : Value), (.pointer (some ⟨w.heap.size, 10, none⟩) : Value), (.slice (some ⟨g, o, none⟩) a.rl a.rc : Value), (.int .i64 (j : Int) : Value), (.pointer (some ⟨g, o + j * 3, none⟩) : Value), (.pointer (some ⟨g, o + j * 3 + 2, none⟩) : Value), (.slice s.a s.n s.c : Value), (.pointer (some ⟨w.heap.size + 1, 10, none⟩) : Value), (.slice (some ⟨g', o', none⟩) b.rl b.rc : Value), (.int .i64 (j : Int) : Value), (.pointer (some ⟨g', o' + j * 3, none⟩) : Value), (.pointer (some ⟨g', o' + j * 3 + 2, none⟩) : Value), (.slice t.a t.n t.c : Value), (.bool (decide (s.bytes = t.bytes)) : Value), (.bool (!decide (s.bytes = t.bytes)) : Value), (.bool (!decide (s.bytes = t.bytes)) : Value)] : List Value).getD iqv undef) [(some 36, .pointer (some ⟨w.heap.size, 10, none⟩)), (some 37, .slice (some ⟨g, o, none⟩) a.rl a.rc), (some 38, .int .i64 (j : Int)), (some 39, .pointer (some ⟨g, o + j * 3, none⟩)), (some 40, .pointer (some ⟨g, o + j * 3, none⟩)), (some 41, .int .i64 s.flags), (some 42, .pointer (some ⟨w.heap.size + 1, 10, none⟩)), (some 43, .slice (some ⟨g', o', none⟩) b.rl b.rc), (some 44, .int .i64 (j : Int)), (some 45, .pointer (some ⟨g', o' + j * 3, none⟩)), (some 46, .pointer (some ⟨g', o' + j * 3, none⟩)), (some 47, .int .i64 t.flags), (some 48, .bool false), (some 49, .bool false), (some 50, .pointer (some ⟨w.heap.size, 10, none⟩)), (some 51, .slice (some ⟨g, o, none⟩) a.rl a.rc), (some 52, .int .i64 (j : Int)), (some 53, .pointer (some ⟨g, o + j * 3, none⟩)), (some 54, .pointer (some ⟨g, o + j * 3 + 1, none⟩)), (some 55, .int .i64 s.type), (some 56, .pointer (some ⟨w.heap.size + 1, 10, none⟩)), (some 57, .slice (some ⟨g', o', none⟩) b.rl b.rc), (some 58, .int .i64 (j : Int)), (some 59, .pointer (some ⟨g', o' + j * 3, none⟩)), (some 60, .pointer (some ⟨g', o' + j * 3 + 1, none⟩)), (some 61, .int .i64 t.type), (some 62, .bool false), (some 63, .bool false), (some 64, .bool false), (some 65, .pointer (some ⟨w.heap.size, 10, none⟩)), (some 66, .slice (some ⟨g, o, none⟩) a.rl a.rc), (some 67, .int .i64 (j : Int)), (some 68, .pointer (some ⟨g, o + j * 3, none⟩)), (some 69, .pointer (some ⟨g, o + j * 3 + 2, none⟩)), (some 70, .slice s.a s.n s.c), (some 71, .pointer (some ⟨w.heap.size + 1, 10, none⟩)), (some 72, .slice (some ⟨g', o', none⟩) b.rl b.rc), (some 73, .int .i64 (j : Int)), (some 74, .pointer (some ⟨g', o' + j * 3, none⟩)), (some 75, .pointer (some ⟨g', o' + j * 3 + 2, none⟩)), (some 76, .slice t.a t.n t.c), (some 77, .bool (decide (s.bytes = t.bytes))), (some 78, .bool (!decide (s.bytes = t.bytes))), (some 79, .bool (!decide (s.bytes = t.bytes)))] (fun W : World => Below wr.heap.size wr W) (by kernel_rfl) (by kernel_rfl) ((Below.refl _ _).drew) (fun iq hiq => ?_) (by kernel_rfl) (fun W hSW => ?_)
              · match iq, hiq with
                | 0, _ =>
                  intro aq W hSW hf
                  have v2 : aq.tmps[2]? = some (.pointer (some ⟨w.heap.size, 0, none⟩)) := (hf.at_base 2 (by kernel_rfl)).trans rfl
                  clear hf
                  refine wpOp_flow rfl (by rfl) (fun Kq hK => ?_)
                  go_simp
                  exact hK _ _ ⟨rfl, hSW⟩
                | 1, _ =>
                  intro aq W hSW hf
                  have v36 : aq.tmps[36]? = some (.pointer (some ⟨w.heap.size, 10, none⟩)) := hf.val 0 36 (by kernel_rfl) rfl
                  clear hf
                  refine wpOp_flow rfl (by rfl) (fun Kq hK => ?_)
                  have k := X10.out W hSW
                  go_simp
                  exact hK _ _ ⟨rfl, hSW⟩
                | 2, _ =>
                  intro aq W hSW hf
                  have v5 : aq.tmps[5]? = some (.int .i64 (j : Int)) := (hf.at_base 5 (by kernel_rfl)).trans rfl
                  clear hf
                  refine wpOp_flow rfl (by rfl) (fun Kq hK => ?_)
                  go_simp
                  exact hK _ _ ⟨rfl, hSW⟩
                | 3, _ =>
                  intro aq W hSW hf
                  have v37 : aq.tmps[37]? = some (.slice (some ⟨g, o, none⟩) a.rl a.rc) := hf.val 1 37 (by kernel_rfl) rfl
                  have v38 : aq.tmps[38]? = some (.int .i64 (j : Int)) := hf.val 2 38 (by kernel_rfl) rfl
                  clear hf
                  refine wpOp_flow rfl (by rfl) (fun Kq hK => ?_)
                  have l1 := L1.out
                  go_simp
                  exact hK _ _ ⟨rfl, hSW⟩
                | 4, _ =>
                  intro aq W hSW hf
                  have v39 : aq.tmps[39]? = some (.pointer (some ⟨g, o + j * 3, none⟩)) := hf.val 3 39 (by kernel_rfl) rfl
                  clear hf
                  refine wpOp_flow rfl (by rfl) (fun Kq hK => ?_)
                  go_simp
                  exact hK _ _ ⟨rfl, hSW⟩
                | 5, _ =>
                  intro aq W hSW hf
                  have v40 : aq.tmps[40]? = some (.pointer (some ⟨g, o + j * 3, none⟩)) := hf.val 4 40 (by kernel_rfl) rfl
                  clear hf
                  refine wpOp_flow rfl (by rfl) (fun Kq hK => ?_)
                  have k := C0.out W hSW
                  go_simp
                  exact hK _ _ ⟨rfl, hSW⟩
                | 6, _ =>
                  intro aq W hSW hf
                  have v3 : aq.tmps[3]? = some (.pointer (some ⟨w.heap.size + 1, 0, none⟩)) := (hf.at_base 3 (by kernel_rfl)).trans rfl
                  clear hf
                  refine wpOp_flow rfl (by rfl) (fun Kq hK => ?_)
                  go_simp
                  exact hK _ _ ⟨rfl, hSW⟩
                | 7, _ =>
                  intro aq W hSW hf
                  have v42 : aq.tmps[42]? = some (.pointer (some ⟨w.heap.size + 1, 10, none⟩)) := hf.val 6 42 (by kernel_rfl) rfl
                  clear hf
                  refine wpOp_flow rfl (by rfl) (fun Kq hK => ?_)
                  have k := Y10.out W hSW
                  go_simp
                  exact hK _ _ ⟨rfl, hSW⟩
                | 8, _ =>
                  intro aq W hSW hf
                  have v5 : aq.tmps[5]? = some (.int .i64 (j : Int)) := (hf.at_base 5 (by kernel_rfl)).trans rfl
                  clear hf
                  refine wpOp_flow rfl (by rfl) (fun Kq hK => ?_)
                  go_simp
                  exact hK _ _ ⟨rfl, hSW⟩
                | 9, _ =>
                  intro aq W hSW hf
                  have v43 : aq.tmps[43]? = some (.slice (some ⟨g', o', none⟩) b.rl b.rc) := hf.val 7 43 (by kernel_rfl) rfl
                  have v44 : aq.tmps[44]? = some (.int .i64 (j : Int)) := hf.val 8 44 (by kernel_rfl) rfl
                  clear hf
                  refine wpOp_flow rfl (by rfl) (fun Kq hK => ?_)
                  have l1 := L2.out
                  go_simp
                  exact hK _ _ ⟨rfl, hSW⟩
                | 10, _ =>
                  intro aq W hSW hf
                  have v45 : aq.tmps[45]? = some (.pointer (some ⟨g', o' + j * 3, none⟩)) := hf.val 9 45 (by kernel_rfl) rfl
                  clear hf
                  refine wpOp_flow rfl (by rfl) (fun Kq hK => ?_)
                  go_simp
                  exact hK _ _ ⟨rfl, hSW⟩
                | 11, _ =>
                  intro aq W hSW hf
                  have v46 : aq.tmps[46]? = some (.pointer (some ⟨g', o' + j * 3, none⟩)) := hf.val 10 46 (by kernel_rfl) rfl
                  clear hf
                  refine wpOp_flow rfl (by rfl) (fun Kq hK => ?_)
                  have k := D0.out W hSW
                  go_simp
                  exact hK _ _ ⟨rfl, hSW⟩
                | 12, _ =>
                  intro aq W hSW hf
                  have v41 : aq.tmps[41]? = some (.int .i64 s.flags) := hf.val 5 41 (by kernel_rfl) rfl
                  have v47 : aq.tmps[47]? = some (.int .i64 t.flags) := hf.val 11 47 (by kernel_rfl) rfl
                  clear hf
                  refine wpOp_flow rfl (by rfl) (fun Kq hK => ?_)
                  have hb := HF.out
                  go_simp
                  exact hK _ _ ⟨rfl, hSW⟩
                | 13, _ =>
                  intro aq W hSW hf
                  have v48 : aq.tmps[48]? = some (.bool false) := hf.val 12 48 (by kernel_rfl) rfl
                  clear hf
                  refine wpOp_flow rfl (by rfl) (fun Kq hK => ?_)
                  go_simp
                  exact hK _ _ ⟨rfl, hSW⟩
                | 14, _ =>
                  intro aq W hSW hf
                  have v2 : aq.tmps[2]? = some (.pointer (some ⟨w.heap.size, 0, none⟩)) := (hf.at_base 2 (by kernel_rfl)).trans rfl
                  have v49 : aq.tmps[49]? = some (.bool false) := hf.val 13 49 (by kernel_rfl) rfl
                  clear hf
                  refine wpOp_flow rfl (wanted_of rfl rfl v49) (fun Kq hK => ?_)
                  go_simp
                  exact hK _ _ ⟨rfl, hSW⟩
                | 15, _ =>
                  intro aq W hSW hf
                  have v49 : aq.tmps[49]? = some (.bool false) := hf.val 13 49 (by kernel_rfl) rfl
                  have v50 : aq.tmps[50]? = some (.pointer (some ⟨w.heap.size, 10, none⟩)) := hf.val 14 50 (by kernel_rfl) rfl
                  clear hf
                  refine wpOp_flow rfl (wanted_of rfl rfl v49) (fun Kq hK => ?_)
                  have k := X10.out W hSW
                  go_simp
                  exact hK _ _ ⟨rfl, hSW⟩
                | 16, _ =>
                  intro aq W hSW hf
                  have v5 : aq.tmps[5]? = some (.int .i64 (j : Int)) := (hf.at_base 5 (by kernel_rfl)).trans rfl
                  have v49 : aq.tmps[49]? = some (.bool false) := hf.val 13 49 (by kernel_rfl) rfl
                  clear hf
                  refine wpOp_flow rfl (wanted_of rfl rfl v49) (fun Kq hK => ?_)
                  go_simp
                  exact hK _ _ ⟨rfl, hSW⟩
                | 17, _ =>
                  intro aq W hSW hf
                  have v49 : aq.tmps[49]? = some (.bool false) := hf.val 13 49 (by kernel_rfl) rfl
                  have v51 : aq.tmps[51]? = some (.slice (some ⟨g, o, none⟩) a.rl a.rc) := hf.val 15 51 (by kernel_rfl) rfl
                  have v52 : aq.tmps[52]? = some (.int .i64 (j : Int)) := hf.val 16 52 (by kernel_rfl) rfl
                  clear hf
                  refine wpOp_flow rfl (wanted_of rfl rfl v49) (fun Kq hK => ?_)
                  have l1 := L1.out
                  go_simp
                  exact hK _ _ ⟨rfl, hSW⟩
                | 18, _ =>
                  intro aq W hSW hf
                  have v49 : aq.tmps[49]? = some (.bool false) := hf.val 13 49 (by kernel_rfl) rfl
                  have v53 : aq.tmps[53]? = some (.pointer (some ⟨g, o + j * 3, none⟩)) := hf.val 17 53 (by kernel_rfl) rfl
                  clear hf
                  refine wpOp_flow rfl (wanted_of rfl rfl v49) (fun Kq hK => ?_)
                  go_simp
                  exact hK _ _ ⟨rfl, hSW⟩
                | 19, _ =>
                  intro aq W hSW hf
                  have v49 : aq.tmps[49]? = some (.bool false) := hf.val 13 49 (by kernel_rfl) rfl
                  have v54 : aq.tmps[54]? = some (.pointer (some ⟨g, o + j * 3 + 1, none⟩)) := hf.val 18 54 (by kernel_rfl) rfl
                  clear hf
                  refine wpOp_flow rfl (wanted_of rfl rfl v49) (fun Kq hK => ?_)
                  have k := C1.out W hSW
                  go_simp
                  exact hK _ _ ⟨rfl, hSW⟩
                | 20, _ =>
                  intro aq W hSW hf
                  have v3 : aq.tmps[3]? = some (.pointer (some ⟨w.heap.size + 1, 0, none⟩)) := (hf.at_base 3 (by kernel_rfl)).trans rfl
                  have v49 : aq.tmps[49]? = some (.bool false) := hf.val 13 49 (by kernel_rfl) rfl
                  clear hf
                  refine wpOp_flow rfl (wanted_of rfl rfl v49) (fun Kq hK => ?_)
                  go_simp
                  exact hK _ _ ⟨rfl, hSW⟩
                | 21, _ =>
                  intro aq W hSW hf
                  have v49 : aq.tmps[49]? = some (.bool false) := hf.val 13 49 (by kernel_rfl) rfl
                  have v56 : aq.tmps[56]? = some (.pointer (some ⟨w.heap.size + 1, 10, none⟩)) := hf.val 20 56 (by kernel_rfl) rfl
                  clear hf
                  refine wpOp_flow rfl (wanted_of rfl rfl v49) (fun Kq hK => ?_)
                  have k := Y10.out W hSW
                  go_simp
                  exact hK _ _ ⟨rfl, hSW⟩
                | 22, _ =>
                  intro aq W hSW hf
                  have v5 : aq.tmps[5]? = some (.int .i64 (j : Int)) := (hf.at_base 5 (by kernel_rfl)).trans rfl
                  have v49 : aq.tmps[49]? = some (.bool false) := hf.val 13 49 (by kernel_rfl) rfl
                  clear hf
                  refine wpOp_flow rfl (wanted_of rfl rfl v49) (fun Kq hK => ?_)
                  go_simp
                  exact hK _ _ ⟨rfl, hSW⟩
                | 23, _ =>
                  intro aq W hSW hf
                  have v49 : aq.tmps[49]? = some (.bool false) := hf.val 13 49 (by kernel_rfl) rfl
                  have v57 : aq.tmps[57]? = some (.slice (some ⟨g', o', none⟩) b.rl b.rc) := hf.val 21 57 (by kernel_rfl) rfl
                  have v58 : aq.tmps[58]? = some (.int .i64 (j : Int)) := hf.val 22 58 (by kernel_rfl) rfl
                  clear hf
                  refine wpOp_flow rfl (wanted_of rfl rfl v49) (fun Kq hK => ?_)
                  have l1 := L2.out
                  go_simp
                  exact hK _ _ ⟨rfl, hSW⟩
                | 24, _ =>
                  intro aq W hSW hf
                  have v49 : aq.tmps[49]? = some (.bool false) := hf.val 13 49 (by kernel_rfl) rfl
                  have v59 : aq.tmps[59]? = some (.pointer (some ⟨g', o' + j * 3, none⟩)) := hf.val 23 59 (by kernel_rfl) rfl
                  clear hf
                  refine wpOp_flow rfl (wanted_of rfl rfl v49) (fun Kq hK => ?_)
                  go_simp
                  exact hK _ _ ⟨rfl, hSW⟩
                | 25, _ =>
                  intro aq W hSW hf
                  have v49 : aq.tmps[49]? = some (.bool false) := hf.val 13 49 (by kernel_rfl) rfl
                  have v60 : aq.tmps[60]? = some (.pointer (some ⟨g', o' + j * 3 + 1, none⟩)) := hf.val 24 60 (by kernel_rfl) rfl
                  clear hf
                  refine wpOp_flow rfl (wanted_of rfl rfl v49) (fun Kq hK => ?_)
                  have k := D1.out W hSW
                  go_simp
                  exact hK _ _ ⟨rfl, hSW⟩
                | 26, _ =>
                  intro aq W hSW hf
                  have v49 : aq.tmps[49]? = some (.bool false) := hf.val 13 49 (by kernel_rfl) rfl
                  have v55 : aq.tmps[55]? = some (.int .i64 s.type) := hf.val 19 55 (by kernel_rfl) rfl
                  have v61 : aq.tmps[61]? = some (.int .i64 t.type) := hf.val 25 61 (by kernel_rfl) rfl
                  clear hf
                  refine wpOp_flow rfl (wanted_of rfl rfl v49) (fun Kq hK => ?_)
                  have hb := HT.out
                  go_simp
                  exact hK _ _ ⟨rfl, hSW⟩
                | 27, _ =>
                  intro aq W hSW hf
                  have v49 : aq.tmps[49]? = some (.bool false) := hf.val 13 49 (by kernel_rfl) rfl
                  have v62 : aq.tmps[62]? = some (.bool false) := hf.val 26 62 (by kernel_rfl) rfl
                  clear hf
                  refine wpOp_flow rfl (by rfl) (fun Kq hK => ?_)
                  go_simp
                  exact hK _ _ ⟨rfl, hSW⟩
                | 28, _ =>
                  intro aq W hSW hf
                  have v63 : aq.tmps[63]? = some (.bool false) := hf.val 27 63 (by kernel_rfl) rfl
                  clear hf
                  refine wpOp_flow rfl (by rfl) (fun Kq hK => ?_)
                  go_simp
                  exact hK _ _ ⟨rfl, hSW⟩
                | 29, _ =>
                  intro aq W hSW hf
                  have v2 : aq.tmps[2]? = some (.pointer (some ⟨w.heap.size, 0, none⟩)) := (hf.at_base 2 (by kernel_rfl)).trans rfl
                  have v64 : aq.tmps[64]? = some (.bool false) := hf.val 28 64 (by kernel_rfl) rfl
                  clear hf
                  refine wpOp_flow rfl (wanted_of rfl rfl v64) (fun Kq hK => ?_)
                  go_simp
                  exact hK _ _ ⟨rfl, hSW⟩
                | 30, _ =>
                  intro aq W hSW hf
                  have v64 : aq.tmps[64]? = some (.bool false) := hf.val 28 64 (by kernel_rfl) rfl
                  have v65 : aq.tmps[65]? = some (.pointer (some ⟨w.heap.size, 10, none⟩)) := hf.val 29 65 (by kernel_rfl) rfl
                  clear hf
                  refine wpOp_flow rfl (wanted_of rfl rfl v64) (fun Kq hK => ?_)
                  have k := X10.out W hSW
                  go_simp
                  exact hK _ _ ⟨rfl, hSW⟩
                | 31, _ =>
                  intro aq W hSW hf
                  have v5 : aq.tmps[5]? = some (.int .i64 (j : Int)) := (hf.at_base 5 (by kernel_rfl)).trans rfl
                  have v64 : aq.tmps[64]? = some (.bool false) := hf.val 28 64 (by kernel_rfl) rfl
                  clear hf
                  refine wpOp_flow rfl (wanted_of rfl rfl v64) (fun Kq hK => ?_)
                  go_simp
                  exact hK _ _ ⟨rfl, hSW⟩
                | 32, _ =>
                  intro aq W hSW hf
                  have v64 : aq.tmps[64]? = some (.bool false) := hf.val 28 64 (by kernel_rfl) rfl
                  have v66 : aq.tmps[66]? = some (.slice (some ⟨g, o, none⟩) a.rl a.rc) := hf.val 30 66 (by kernel_rfl) rfl
                  have v67 : aq.tmps[67]? = some (.int .i64 (j : Int)) := hf.val 31 67 (by kernel_rfl) rfl
                  clear hf
                  refine wpOp_flow rfl (wanted_of rfl rfl v64) (fun Kq hK => ?_)
                  have l1 := L1.out
                  go_simp
                  exact hK _ _ ⟨rfl, hSW⟩
                | 33, _ =>
                  intro aq W hSW hf
                  have v64 : aq.tmps[64]? = some (.bool false) := hf.val 28 64 (by kernel_rfl) rfl
                  have v68 : aq.tmps[68]? = some (.pointer (some ⟨g, o + j * 3, none⟩)) := hf.val 32 68 (by kernel_rfl) rfl
                  clear hf
                  refine wpOp_flow rfl (wanted_of rfl rfl v64) (fun Kq hK => ?_)
                  go_simp
                  exact hK _ _ ⟨rfl, hSW⟩
                | 34, _ =>
                  intro aq W hSW hf
                  have v64 : aq.tmps[64]? = some (.bool false) := hf.val 28 64 (by kernel_rfl) rfl
                  have v69 : aq.tmps[69]? = some (.pointer (some ⟨g, o + j * 3 + 2, none⟩)) := hf.val 33 69 (by kernel_rfl) rfl
                  clear hf
                  refine wpOp_flow rfl (wanted_of rfl rfl v64) (fun Kq hK => ?_)
                  have k := C2.out W hSW
                  go_simp
                  exact hK _ _ ⟨rfl, hSW⟩
                | 35, _ =>
                  intro aq W hSW hf
                  have v3 : aq.tmps[3]? = some (.pointer (some ⟨w.heap.size + 1, 0, none⟩)) := (hf.at_base 3 (by kernel_rfl)).trans rfl
                  have v64 : aq.tmps[64]? = some (.bool false) := hf.val 28 64 (by kernel_rfl) rfl
                  clear hf
                  refine wpOp_flow rfl (wanted_of rfl rfl v64) (fun Kq hK => ?_)
                  go_simp
                  exact hK _ _ ⟨rfl, hSW⟩
                | 36, _ =>
                  intro aq W hSW hf
                  have v64 : aq.tmps[64]? = some (.bool false) := hf.val 28 64 (by kernel_rfl) rfl
                  have v71 : aq.tmps[71]? = some (.pointer (some ⟨w.heap.size + 1, 10, none⟩)) := hf.val 35 71 (by kernel_rfl) rfl
                  clear hf
                  refine wpOp_flow rfl (wanted_of rfl rfl v64) (fun Kq hK => ?_)
                  have k := Y10.out W hSW
                  go_simp
                  exact hK _ _ ⟨rfl, hSW⟩
                | 37, _ =>
                  intro aq W hSW hf
                  have v5 : aq.tmps[5]? = some (.int .i64 (j : Int)) := (hf.at_base 5 (by kernel_rfl)).trans rfl
                  have v64 : aq.tmps[64]? = some (.bool false) := hf.val 28 64 (by kernel_rfl) rfl
                  clear hf
                  refine wpOp_flow rfl (wanted_of rfl rfl v64) (fun Kq hK => ?_)
                  go_simp
                  exact hK _ _ ⟨rfl, hSW⟩
                | 38, _ =>
                  intro aq W hSW hf
                  have v64 : aq.tmps[64]? = some (.bool false) := hf.val 28 64 (by kernel_rfl) rfl
                  have v72 : aq.tmps[72]? = some (.slice (some ⟨g', o', none⟩) b.rl b.rc) := hf.val 36 72 (by kernel_rfl) rfl
                  have v73 : aq.tmps[73]? = some (.int .i64 (j : Int)) := hf.val 37 73 (by kernel_rfl) rfl
                  clear hf
                  refine wpOp_flow rfl (wanted_of rfl rfl v64) (fun Kq hK => ?_)
                  have l1 := L2.out
                  go_simp
                  exact hK _ _ ⟨rfl, hSW⟩
                | 39, _ =>
                  intro aq W hSW hf
                  have v64 : aq.tmps[64]? = some (.bool false) := hf.val 28 64 (by kernel_rfl) rfl
                  have v74 : aq.tmps[74]? = some (.pointer (some ⟨g', o' + j * 3, none⟩)) := hf.val 38 74 (by kernel_rfl) rfl
                  clear hf
                  refine wpOp_flow rfl (wanted_of rfl rfl v64) (fun Kq hK => ?_)
                  go_simp
                  exact hK _ _ ⟨rfl, hSW⟩
                | 40, _ =>
                  intro aq W hSW hf
                  have v64 : aq.tmps[64]? = some (.bool false) := hf.val 28 64 (by kernel_rfl) rfl
                  have v75 : aq.tmps[75]? = some (.pointer (some ⟨g', o' + j * 3 + 2, none⟩)) := hf.val 39 75 (by kernel_rfl) rfl
                  clear hf
                  refine wpOp_flow rfl (wanted_of rfl rfl v64) (fun Kq hK => ?_)
                  have k := D2.out W hSW
                  go_simp
                  exact hK _ _ ⟨rfl, hSW⟩
                | 41, _ =>
                  intro aq W hSW hf
                  have v64 : aq.tmps[64]? = some (.bool false) := hf.val 28 64 (by kernel_rfl) rfl
                  have v70 : aq.tmps[70]? = some (.slice s.a s.n s.c) := hf.val 34 70 (by kernel_rfl) rfl
                  have v76 : aq.tmps[76]? = some (.slice t.a t.n t.c) := hf.val 40 76 (by kernel_rfl) rfl
                  clear hf
                  refine wpOp_flow rfl (wanted_of rfl rfl v64) (fun Kq hK => ?_)
                  go_simp
                  refine (HC.out W hSW).mono ?_
                  rintro e w19 ⟨rfl, B19⟩
                  exact hK _ _ ⟨rfl, hSW.trans (B19.mono hSW.size)⟩
                | 42, _ =>
                  intro aq W hSW hf
                  have v64 : aq.tmps[64]? = some (.bool false) := hf.val 28 64 (by kernel_rfl) rfl
                  have v77 : aq.tmps[77]? = some (.bool (decide (s.bytes = t.bytes))) := hf.val 41 77 (by kernel_rfl) rfl
                  clear hf
                  refine wpOp_flow rfl (wanted_of rfl rfl v64) (fun Kq hK => ?_)
                  go_simp
                  exact hK _ _ ⟨rfl, hSW⟩
                | 43, _ =>
                  intro aq W hSW hf
                  have v64 : aq.tmps[64]? = some (.bool false) := hf.val 28 64 (by kernel_rfl) rfl
                  have v78 : aq.tmps[78]? = some (.bool (!decide (s.bytes = t.bytes))) := hf.val 42 78 (by kernel_rfl) rfl
                  clear hf
                  refine wpOp_flow rfl (by rfl) (fun Kq hK => ?_)
                  go_simp
                  exact hK _ _ ⟨rfl, hSW⟩
                | kq + 44, hk => exact absurd hk (by first | omega | (intro h; simp at h; omega))
              · simp only [puts, Act.put, List.setIfInBounds_toArray, List.set_cons_zero, List.set_cons_succ]
                have HB2 := hidp (HS.out.below hSW)
                clear hSW
                cases hq : decide (s.bytes = t.bytes) with
                | false =>
                  have HQ := hidp (HM.out (by simpa using hq))
                  go_wp2
                  go_ret
                  exact ⟨by rw [HQ.out]; rfl, HB2.out.bel⟩
                | true =>
                  have HQ := hidp (HN.out (by simpa using hq))
                  go_wp2
                  go_roundw
                  case rel => exact ⟨j + 1, by omega, by go_num, HQ, HB2⟩
                  case measure => simp [intOf]; omega
            · have HT := hidp (show (s.type != t.type) = true by simp [hk])
              have HQ := hidp (HM0.out (by simp [Rw.key, hk]))
              clear HN0 HM0 hk hf
              go_upto_region 6 with (fail)
              refine wp_region_flow2 (fun iqv => ([(.pointer (some ⟨w.heap.size, 10, none⟩) : Value), (.slice (some ⟨g, o, none⟩) a.rl a.rc : Value), (.int .i64 (j : Int) : Value), (.pointer (some ⟨g, o + j * 3, none⟩) : Value), (.pointer (some ⟨g, o + j * 3, none⟩) : Value), (.int .i64 s.flags : Value), (.pointer (some ⟨w.heap.size + 1, 10, none⟩) : Value), (.slice (some ⟨g', o', none⟩) b.rl b.rc : Value), (.int .i64 (j : Int) : Value), (.pointer (some ⟨g', o' + j * 3, none⟩) : Value), (.pointer (some ⟨g', o' + j * 3, none⟩) : Value), (.int .i64 t.flags : Value), (.bool false : Value), (.bool false : Value), (.pointer (some ⟨w.heap.size, 10, none⟩) : Value), (.slice (some ⟨g, o, none⟩) a.rl a.rc : Value), (.int .i64 (j : Int) : Value), (.pointer (some ⟨g, o + j * 3, none⟩) : Value), (.pointer (some ⟨g, o + j * 3 + 1, none⟩) : Value), (.int .i64 s.type : Value), (.pointer (some ⟨w.heap.size + 1, 10, none⟩) : Value), (.slice (some ⟨g', o', none⟩) b.rl b.rc : Value), (.int .i64 (j : Int) : Value), (.pointer (some ⟨g', o' + j * 3, none⟩) : Value), (.pointer (some ⟨g', o' + j * 3 + 1, none⟩) : Value), (.int .i64 t.type : Value), (.bool true : Value), (.bool true : Value), (.bool true : Value), (undef : Value), (undef : Value), (undef : Value), (undef : Value), (undef : Value), (undef : Value), (undef : Value), (undef : Value), (undef : Value), (undef : Value), (undef : Value), (undef : Value), (undef : Value), (undef : Value), (.bool true : Value)] : List Value).getD iqv undef) [(some 36, .pointer (some ⟨w.heap.size, 10, none⟩)), (some 37, .slice (some ⟨g, o, none⟩) a.rl a.rc), (some 38, .int .i64 (j : Int)), (some 39, .pointer (some ⟨g, o + j * 3, none⟩)), (some 40, .pointer (some ⟨g, o + j * 3, none⟩)), (some 41, .int .i64 s.flags), (some 42, .pointer (some ⟨w.heap.size + 1, 10, none⟩)), (some 43, .slice (some ⟨g', o', none⟩) b.rl b.rc), (some 44, .int .i64 (j : Int)), (some 45, .pointer (some ⟨g', o' + j * 3, none⟩)), (some 46, .pointer (some ⟨g', o' + j * 3, none⟩)), (some 47, .int .i64 t.flags), (some 48, .bool false), (some 49, .bool false), (some 50, .pointer (some ⟨w.heap.size, 10, none⟩)), (some 51, .slice (some ⟨g, o, none⟩) a.rl a.rc), (some 52, .int .i64 (j : Int)), (some 53, .pointer (some ⟨g, o + j * 3, none⟩)), (some 54, .pointer (some ⟨g, o + j * 3 + 1, none⟩)), (some 55, .int .i64 s.type), (some 56, .pointer (some ⟨w.heap.size + 1, 10, none⟩)), (some 57, .slice (some ⟨g', o', none⟩) b.rl b.rc), (some 58, .int .i64 (j : Int)), (some 59, .pointer (some ⟨g', o' + j * 3, none⟩)), (some 60, .pointer (some ⟨g', o' + j * 3 + 1, none⟩)), (some 61, .int .i64 t.type), (some 62, .bool true), (some 63, .bool true), (some 64, .bool true), (some 65, undef), (some 66, undef), (some 67, undef), (some 68, undef), (some 69, undef), (some 70, undef), (some 71, undef), (some 72, undef), (some 73, undef), (some 74, undef), (some 75, undef), (some 76, undef), (some 77, undef), (some 78, undef), (some 79, .bool true)] (fun W : World => Below wr.heap.size wr W) (by kernel_rfl) (by kernel_rfl) ((Below.refl _ _).drew) (fun iq hiq => ?_) (by kernel_rfl) (fun W hSW => ?_)
              · match iq, hiq with
                | 0, _ =>
                  intro aq W hSW hf
                  have v2 : aq.tmps[2]? = some (.pointer (some ⟨w.heap.size, 0, none⟩)) := (hf.at_base 2 (by kernel_rfl)).trans rfl
                  clear hf
                  refine wpOp_flow rfl (by rfl) (fun Kq hK => ?_)
                  go_simp
                  exact hK _ _ ⟨rfl, hSW⟩
                | 1, _ =>
                  intro aq W hSW hf
                  have v36 : aq.tmps[36]? = some (.pointer (some ⟨w.heap.size, 10, none⟩)) := hf.val 0 36 (by kernel_rfl) rfl
                  clear hf
                  refine wpOp_flow rfl (by rfl) (fun Kq hK => ?_)
                  have k := X10.out W hSW
                  go_simp
                  exact hK _ _ ⟨rfl, hSW⟩
                | 2, _ =>
                  intro aq W hSW hf
                  have v5 : aq.tmps[5]? = some (.int .i64 (j : Int)) := (hf.at_base 5 (by kernel_rfl)).trans rfl
                  clear hf
                  refine wpOp_flow rfl (by rfl) (fun Kq hK => ?_)
                  go_simp
                  exact hK _ _ ⟨rfl, hSW⟩
                | 3, _ =>
                  intro aq W hSW hf
                  have v37 : aq.tmps[37]? = some (.slice (some ⟨g, o, none⟩) a.rl a.rc) := hf.val 1 37 (by kernel_rfl) rfl
                  have v38 : aq.tmps[38]? = some (.int .i64 (j : Int)) := hf.val 2 38 (by kernel_rfl) rfl
                  clear hf
                  refine wpOp_flow rfl (by rfl) (fun Kq hK => ?_)
                  have l1 := L1.out
                  go_simp
                  exact hK _ _ ⟨rfl, hSW⟩
                | 4, _ =>
                  intro aq W hSW hf
                  have v39 : aq.tmps[39]? = some (.pointer (some ⟨g, o + j * 3, none⟩)) := hf.val 3 39 (by kernel_rfl) rfl
                  clear hf
                  refine wpOp_flow rfl (by rfl) (fun Kq hK => ?_)
                  go_simp
                  exact hK _ _ ⟨rfl, hSW⟩
                | 5, _ =>
                  intro aq W hSW hf
                  have v40 : aq.tmps[40]? = some (.pointer (some ⟨g, o + j * 3, none⟩)) := hf.val 4 40 (by kernel_rfl) rfl
                  clear hf
                  refine wpOp_flow rfl (by rfl) (fun Kq hK => ?_)
                  have k := C0.out W hSW
                  go_simp
                  exact hK _ _ ⟨rfl, hSW⟩
                | 6, _ =>
                  intro aq W hSW hf
                  have v3 : aq.tmps[3]? = some (.pointer (some ⟨w.heap.size + 1, 0, none⟩)) := (hf.at_base 3 (by kernel_rfl)).trans rfl
                  clear hf
                  refine wpOp_flow rfl (by rfl) (fun Kq hK => ?_)
                  go_simp
                  exact hK _ _ ⟨rfl, hSW⟩
                | 7, _ =>
                  intro aq W hSW hf
                  have v42 : aq.tmps[42]? = some (.pointer (some ⟨w.heap.size + 1, 10, none⟩)) := hf.val 6 42 (by kernel_rfl) rfl
                  clear hf
                  refine wpOp_flow rfl (by rfl) (fun Kq hK => ?_)
                  have k := Y10.out W hSW
                  go_simp
                  exact hK _ _ ⟨rfl, hSW⟩
                | 8, _ =>
                  intro aq W hSW hf
                  have v5 : aq.tmps[5]? = some (.int .i64 (j : Int)) := (hf.at_base 5 (by kernel_rfl)).trans rfl
                  clear hf
                  refine wpOp_flow rfl (by rfl) (fun Kq hK => ?_)
                  go_simp
                  exact hK _ _ ⟨rfl, hSW⟩
                | 9, _ =>
                  intro aq W hSW hf
                  have v43 : aq.tmps[43]? = some (.slice (some ⟨g', o', none⟩) b.rl b.rc) := hf.val 7 43 (by kernel_rfl) rfl
                  have v44 : aq.tmps[44]? = some (.int .i64 (j : Int)) := hf.val 8 44 (by kernel_rfl) rfl
                  clear hf
                  refine wpOp_flow rfl (by rfl) (fun Kq hK => ?_)
                  have l1 := L2.out
                  go_simp
                  exact hK _ _ ⟨rfl, hSW⟩
                | 10, _ =>
                  intro aq W hSW hf
                  have v45 : aq.tmps[45]? = some (.pointer (some ⟨g', o' + j * 3, none⟩)) := hf.val 9 45 (by kernel_rfl) rfl
                  clear hf
                  refine wpOp_flow rfl (by rfl) (fun Kq hK => ?_)
                  go_simp
                  exact hK _ _ ⟨rfl, hSW⟩
                | 11, _ =>
                  intro aq W hSW hf
                  have v46 : aq.tmps[46]? = some (.pointer (some ⟨g', o' + j * 3, none⟩)) := hf.val 10 46 (by kernel_rfl) rfl
                  clear hf
                  refine wpOp_flow rfl (by rfl) (fun Kq hK => ?_)
                  have k := D0.out W hSW
                  go_simp
                  exact hK _ _ ⟨rfl, hSW⟩
                | 12, _ =>
                  intro aq W hSW hf
                  have v41 : aq.tmps[41]? = some (.int .i64 s.flags) := hf.val 5 41 (by kernel_rfl) rfl
                  have v47 : aq.tmps[47]? = some (.int .i64 t.flags) := hf.val 11 47 (by kernel_rfl) rfl
                  clear hf
                  refine wpOp_flow rfl (by rfl) (fun Kq hK => ?_)
                  have hb := HF.out
                  go_simp
                  exact hK _ _ ⟨rfl, hSW⟩
                | 13, _ =>
                  intro aq W hSW hf
                  have v48 : aq.tmps[48]? = some (.bool false) := hf.val 12 48 (by kernel_rfl) rfl
                  clear hf
                  refine wpOp_flow rfl (by rfl) (fun Kq hK => ?_)
                  go_simp
                  exact hK _ _ ⟨rfl, hSW⟩
                | 14, _ =>
                  intro aq W hSW hf
                  have v2 : aq.tmps[2]? = some (.pointer (some ⟨w.heap.size, 0, none⟩)) := (hf.at_base 2 (by kernel_rfl)).trans rfl
                  have v49 : aq.tmps[49]? = some (.bool false) := hf.val 13 49 (by kernel_rfl) rfl
                  clear hf
                  refine wpOp_flow rfl (wanted_of rfl rfl v49) (fun Kq hK => ?_)
                  go_simp
                  exact hK _ _ ⟨rfl, hSW⟩
                | 15, _ =>
                  intro aq W hSW hf
                  have v49 : aq.tmps[49]? = some (.bool false) := hf.val 13 49 (by kernel_rfl) rfl
                  have v50 : aq.tmps[50]? = some (.pointer (some ⟨w.heap.size, 10, none⟩)) := hf.val 14 50 (by kernel_rfl) rfl
                  clear hf
                  refine wpOp_flow rfl (wanted_of rfl rfl v49) (fun Kq hK => ?_)
                  have k := X10.out W hSW
                  go_simp
                  exact hK _ _ ⟨rfl, hSW⟩
                | 16, _ =>
                  intro aq W hSW hf
                  have v5 : aq.tmps[5]? = some (.int .i64 (j : Int)) := (hf.at_base 5 (by kernel_rfl)).trans rfl
                  have v49 : aq.tmps[49]? = some (.bool false) := hf.val 13 49 (by kernel_rfl) rfl
                  clear hf
                  refine wpOp_flow rfl (wanted_of rfl rfl v49) (fun Kq hK => ?_)
                  go_simp
                  exact hK _ _ ⟨rfl, hSW⟩
                | 17, _ =>
                  intro aq W hSW hf
                  have v49 : aq.tmps[49]? = some (.bool false) := hf.val 13 49 (by kernel_rfl) rfl
                  have v51 : aq.tmps[51]? = some (.slice (some ⟨g, o, none⟩) a.rl a.rc) := hf.val 15 51 (by kernel_rfl) rfl
                  have v52 : aq.tmps[52]? = some (.int .i64 (j : Int)) := hf.val 16 52 (by kernel_rfl) rfl
                  clear hf
                  refine wpOp_flow rfl (wanted_of rfl rfl v49) (fun Kq hK => ?_)
                  have l1 := L1.out
                  go_simp
                  exact hK _ _ ⟨rfl, hSW⟩
                | 18, _ =>
                  intro aq W hSW hf
                  have v49 : aq.tmps[49]? = some (.bool false) := hf.val 13 49 (by kernel_rfl) rfl
                  have v53 : aq.tmps[53]? = some (.pointer (some ⟨g, o + j * 3, none⟩)) := hf.val 17 53 (by kernel_rfl) rfl
                  clear hf
                  refine wpOp_flow rfl (wanted_of rfl rfl v49) (fun Kq hK => ?_)
                  go_simp
                  exact hK _ _ ⟨rfl, hSW⟩
                | 19, _ =>
                  intro aq W hSW hf
                  have v49 : aq.tmps[49]? = some (.bool false) := hf.val 13 49 (by kernel_rfl) rfl
                  have v54 : aq.tmps[54]? = some (.pointer (some ⟨g, o + j * 3 + 1, none⟩)) := hf.val 18 54 (by kernel_rfl) rfl
                  clear hf
                  refine wpOp_flow rfl (wanted_of rfl rfl v49) (fun Kq hK => ?_)
                  have k := C1.out W hSW
                  go_simp
                  exact hK _ _ ⟨rfl, hSW⟩
                | 20, _ =>
                  intro aq W hSW hf
                  have v3 : aq.tmps[3]? = some (.pointer (some ⟨w.heap.size + 1, 0, none⟩)) := (hf.at_base 3 (by kernel_rfl)).trans rfl
                  have v49 : aq.tmps[49]? = some (.bool false) := hf.val 13 49 (by kernel_rfl) rfl
                  clear hf
                  refine wpOp_flow rfl (wanted_of rfl rfl v49) (fun Kq hK => ?_)
                  go_simp
                  exact hK _ _ ⟨rfl, hSW⟩
                | 21, _ =>
                  intro aq W hSW hf
                  have v49 : aq.tmps[49]? = some (.bool false) := hf.val 13 49 (by kernel_rfl) rfl
                  have v56 : aq.tmps[56]? = some (.pointer (some ⟨w.heap.size + 1, 10, none⟩)) := hf.val 20 56 (by kernel_rfl) rfl
                  clear hf
                  refine wpOp_flow rfl (wanted_of rfl rfl v49) (fun Kq hK => ?_)
                  have k := Y10.out W hSW
                  go_simp
                  exact hK _ _ ⟨rfl, hSW⟩
                | 22, _ =>
                  intro aq W hSW hf
                  have v5 : aq.tmps[5]? = some (.int .i64 (j : Int)) := (hf.at_base 5 (by kernel_rfl)).trans rfl
                  have v49 : aq.tmps[49]? = some (.bool false) := hf.val 13 49 (by kernel_rfl) rfl
                  clear hf
                  refine wpOp_flow rfl (wanted_of rfl rfl v49) (fun Kq hK => ?_)
                  go_simp
                  exact hK _ _ ⟨rfl, hSW⟩
                | 23, _ =>
                  intro aq W hSW hf
                  have v49 : aq.tmps[49]? = some (.bool false) := hf.val 13 49 (by kernel_rfl) rfl
                  have v57 : aq.tmps[57]? = some (.slice (some ⟨g', o', none⟩) b.rl b.rc) := hf.val 21 57 (by kernel_rfl) rfl
                  have v58 : aq.tmps[58]? = some (.int .i64 (j : Int)) := hf.val 22 58 (by kernel_rfl) rfl
                  clear hf
                  refine wpOp_flow rfl (wanted_of rfl rfl v49) (fun Kq hK => ?_)
                  have l1 := L2.out
                  go_simp
                  exact hK _ _ ⟨rfl, hSW⟩
                | 24, _ =>
                  intro aq W hSW hf
                  have v49 : aq.tmps[49]? = some (.bool false) := hf.val 13 49 (by kernel_rfl) rfl
                  have v59 : aq.tmps[59]? = some (.pointer (some ⟨g', o' + j * 3, none⟩)) := hf.val 23 59 (by kernel_rfl) rfl
                  clear hf
                  refine wpOp_flow rfl (wanted_of rfl rfl v49) (fun Kq hK => ?_)
                  go_simp
                  exact hK _ _ ⟨rfl, hSW⟩
                | 25, _ =>
                  intro aq W hSW hf
                  have v49 : aq.tmps[49]? = some (.bool false) := hf.val 13 49 (by kernel_rfl) rfl
                  have v60 : aq.tmps[60]? = some (.pointer (some ⟨g', o' + j * 3 + 1, none⟩)) := hf.val 24 60 (by kernel_rfl) rfl
                  clear hf
                  refine wpOp_flow rfl (wanted_of rfl rfl v49) (fun Kq hK => ?_)
                  have k := D1.out W hSW
                  go_simp
                  exact hK _ _ ⟨rfl, hSW⟩
                | 26, _ =>
                  intro aq W hSW hf
                  have v49 : aq.tmps[49]? = some (.bool false) := hf.val 13 49 (by kernel_rfl) rfl
                  have v55 : aq.tmps[55]? = some (.int .i64 s.type) := hf.val 19 55 (by kernel_rfl) rfl
                  have v61 : aq.tmps[61]? = some (.int .i64 t.type) := hf.val 25 61 (by kernel_rfl) rfl
                  clear hf
                  refine wpOp_flow rfl (wanted_of rfl rfl v49) (fun Kq hK => ?_)
                  have hb := HT.out
                  go_simp
                  exact hK _ _ ⟨rfl, hSW⟩
                | 27, _ =>
                  intro aq W hSW hf
                  have v49 : aq.tmps[49]? = some (.bool false) := hf.val 13 49 (by kernel_rfl) rfl
                  have v62 : aq.tmps[62]? = some (.bool true) := hf.val 26 62 (by kernel_rfl) rfl
                  clear hf
                  refine wpOp_flow rfl (by rfl) (fun Kq hK => ?_)
                  go_simp
                  exact hK _ _ ⟨rfl, hSW⟩
                | 28, _ =>
                  intro aq W hSW hf
                  have v63 : aq.tmps[63]? = some (.bool true) := hf.val 27 63 (by kernel_rfl) rfl
                  clear hf
                  refine wpOp_flow rfl (by rfl) (fun Kq hK => ?_)
                  go_simp
                  exact hK _ _ ⟨rfl, hSW⟩
                | 29, _ =>
                  intro aq W hSW hf
                  have v64 : aq.tmps[64]? = some (.bool true) := hf.val 28 64 (by kernel_rfl) rfl
                  clear hf
                  exact wpOp_skip rfl (unwanted_of rfl rfl v64) ⟨rfl, hSW⟩
                | 30, _ =>
                  intro aq W hSW hf
                  have v64 : aq.tmps[64]? = some (.bool true) := hf.val 28 64 (by kernel_rfl) rfl
                  clear hf
                  exact wpOp_skip rfl (unwanted_of rfl rfl v64) ⟨rfl, hSW⟩
                | 31, _ =>
                  intro aq W hSW hf
                  have v64 : aq.tmps[64]? = some (.bool true) := hf.val 28 64 (by kernel_rfl) rfl
                  clear hf
                  exact wpOp_skip rfl (unwanted_of rfl rfl v64) ⟨rfl, hSW⟩
                | 32, _ =>
                  intro aq W hSW hf
                  have v64 : aq.tmps[64]? = some (.bool true) := hf.val 28 64 (by kernel_rfl) rfl
                  clear hf
                  exact wpOp_skip rfl (unwanted_of rfl rfl v64) ⟨rfl, hSW⟩
                | 33, _ =>
                  intro aq W hSW hf
                  have v64 : aq.tmps[64]? = some (.bool true) := hf.val 28 64 (by kernel_rfl) rfl
                  clear hf
                  exact wpOp_skip rfl (unwanted_of rfl rfl v64) ⟨rfl, hSW⟩
                | 34, _ =>
                  intro aq W hSW hf
                  have v64 : aq.tmps[64]? = some (.bool true) := hf.val 28 64 (by kernel_rfl) rfl
                  clear hf
                  exact wpOp_skip rfl (unwanted_of rfl rfl v64) ⟨rfl, hSW⟩
                | 35, _ =>
                  intro aq W hSW hf
                  have v64 : aq.tmps[64]? = some (.bool true) := hf.val 28 64 (by kernel_rfl) rfl
                  clear hf
                  exact wpOp_skip rfl (unwanted_of rfl rfl v64) ⟨rfl, hSW⟩
                | 36, _ =>
                  intro aq W hSW hf
                  have v64 : aq.tmps[64]? = some (.bool true) := hf.val 28 64 (by kernel_rfl) rfl
                  clear hf
                  exact wpOp_skip rfl (unwanted_of rfl rfl v64) ⟨rfl, hSW⟩
                | 37, _ =>
                  intro aq W hSW hf
                  have v64 : aq.tmps[64]? = some (.bool true) := hf.val 28 64 (by kernel_rfl) rfl
                  clear hf
                  exact wpOp_skip rfl (unwanted_of rfl rfl v64) ⟨rfl, hSW⟩
                | 38, _ =>
                  intro aq W hSW hf
                  have v64 : aq.tmps[64]? = some (.bool true) := hf.val 28 64 (by kernel_rfl) rfl
                  clear hf
                  exact wpOp_skip rfl (unwanted_of rfl rfl v64) ⟨rfl, hSW⟩
                | 39, _ =>
                  intro aq W hSW hf
                  have v64 : aq.tmps[64]? = some (.bool true) := hf.val 28 64 (by kernel_rfl) rfl
                  clear hf
                  exact wpOp_skip rfl (unwanted_of rfl rfl v64) ⟨rfl, hSW⟩
                | 40, _ =>
                  intro aq W hSW hf
                  have v64 : aq.tmps[64]? = some (.bool true) := hf.val 28 64 (by kernel_rfl) rfl
                  clear hf
                  exact wpOp_skip rfl (unwanted_of rfl rfl v64) ⟨rfl, hSW⟩
                | 41, _ =>
                  intro aq W hSW hf
                  have v64 : aq.tmps[64]? = some (.bool true) := hf.val 28 64 (by kernel_rfl) rfl
                  clear hf
                  exact wpOp_skip rfl (unwanted_of rfl rfl v64) ⟨rfl, hSW⟩
                | 42, _ =>
                  intro aq W hSW hf
                  have v64 : aq.tmps[64]? = some (.bool true) := hf.val 28 64 (by kernel_rfl) rfl
                  clear hf
                  exact wpOp_skip rfl (unwanted_of rfl rfl v64) ⟨rfl, hSW⟩
                | 43, _ =>
                  intro aq W hSW hf
                  have v64 : aq.tmps[64]? = some (.bool true) := hf.val 28 64 (by kernel_rfl) rfl
                  have v78 : aq.tmps[78]? = some (undef) := hf.val 42 78 (by kernel_rfl) rfl
                  clear hf
                  refine wpOp_flow rfl (by rfl) (fun Kq hK => ?_)
                  go_simp
                  exact hK _ _ ⟨rfl, hSW⟩
                | kq + 44, hk => exact absurd hk (by first | omega | (intro h; simp at h; omega))
              · simp only [puts, Act.put, List.setIfInBounds_toArray, List.set_cons_zero, List.set_cons_succ]
                have HB2 := hidp (HS.out.below hSW)
                clear hSW
                go_wp2
                go_ret
                exact ⟨by rw [HQ.out]; rfl, HB2.out.bel⟩
          · have HF := hidp (show (s.flags != t.flags) = true by simp [hf])
            have HQ := hidp (HM0.out (by simp [Rw.key, hf]))
            clear HN0 HM0 hf
            go_upto_region 6 with (fail)
            refine wp_region_flow2 (fun iqv => ([(.pointer (some ⟨w.heap.size, 10, none⟩) : Value), (.slice (some ⟨g, o, none⟩) a.rl a.rc : Value), (.int .i64 (j : Int) : Value), (.pointer (some ⟨g, o + j * 3, none⟩) : Value), (.pointer (some ⟨g, o + j * 3, none⟩) : Value), (.int .i64 s.flags : Value), (.pointer (some ⟨w.heap.size + 1, 10, none⟩) : Value), (.slice (some ⟨g', o', none⟩) b.rl b.rc : Value), (.int .i64 (j : Int) : Value), (.pointer (some ⟨g', o' + j * 3, none⟩) : Value), (.pointer (some ⟨g', o' + j * 3, none⟩) : Value), (.int .i64 t.flags : Value), (.bool true : Value), (.bool true : Value), (undef : Value), (undef : Value), (undef : Value), (undef : Value), (undef : Value), (undef : Value), (undef : Value), (undef : Value), (undef : Value), (undef : Value), (undef : Value), (undef : Value), (undef : Value), (.bool true : Value), (.bool true : Value), (undef : Value), (undef : Value), (undef : Value), (undef : Value), (undef : Value), (undef : Value), (undef : Value), (undef : Value), (undef : Value), (undef : Value), (undef : Value), (undef : Value), (undef : Value), (undef : Value), (.bool true : Value)] : List Value).getD iqv undef) [(some 36, .pointer (some ⟨w.heap.size, 10, none⟩)), (some 37, .slice (some ⟨g, o, none⟩) a.rl a.rc), (some 38, .int .i64 (j : Int)), (some 39, .pointer (some ⟨g, o + j * 3, none⟩)), (some 40, .pointer (some ⟨g, o + j * 3, none⟩)), (some 41, .int .i64 s.flags), (some 42, .pointer (some ⟨w.heap.size + 1, 10, none⟩)), (some 43, .slice (some ⟨g', o', none⟩) b.rl b.rc), (some 44, .int .i64 (j : Int)), (some 45, .pointer (some ⟨g', o' + j * 3, none⟩)), (some 46, .pointer (some ⟨g', o' + j * 3, none⟩)), (some 47, .int .i64 t.flags), (some 48, .bool true), (some 49, .bool true), (some 50, undef), (some 51, undef), (some 52, undef), (some 53, undef), (some 54, undef), (some 55, undef), (some 56, undef), (some 57, undef), (some 58, undef), (some 59, undef), (some 60, undef), (some 61, undef), (some 62, undef), (some 63, .bool true), (some 64, .bool true), (some 65, undef), (some 66, undef), (some 67, undef), (some 68, undef), (some 69, undef), (some 70, undef), (some 71, undef), (some 72, undef), (some 73, undef), (some 74, undef), (some 75, undef), (some 76, undef), (some 77, undef), (some 78, undef), (some 79, .bool true)] (fun W : World => Below wr.heap.size wr W) (by kernel_rfl) (by kernel_rfl) ((Below.refl _ _).drew) (fun iq hiq => ?_) (by kernel_rfl) (fun W hSW => ?_)
            · match iq, hiq with
              | 0, _ =>
                intro aq W hSW hf
                have v2 : aq.tmps[2]? = some (.pointer (some ⟨w.heap.size, 0, none⟩)) := (hf.at_base 2 (by kernel_rfl)).trans rfl
                clear hf
                refine wpOp_flow rfl (by rfl) (fun Kq hK => ?_)
                go_simp
                exact hK _ _ ⟨rfl, hSW⟩
              | 1, _ =>
                intro aq W hSW hf
                have v36 : aq.tmps[36]? = some (.pointer (some ⟨w.heap.size, 10, none⟩)) := hf.val 0 36 (by kernel_rfl) rfl
                clear hf
                refine wpOp_flow rfl (by rfl) (fun Kq hK => ?_)
                have k := X10.out W hSW
                go_simp
                exact hK _ _ ⟨rfl, hSW⟩
              | 2, _ =>
                intro aq W hSW hf
                have v5 : aq.tmps[5]? = some (.int .i64 (j : Int)) := (hf.at_base 5 (by kernel_rfl)).trans rfl
                clear hf
                refine wpOp_flow rfl (by rfl) (fun Kq hK => ?_)
                go_simp
                exact hK _ _ ⟨rfl, hSW⟩
              | 3, _ =>
                intro aq W hSW hf
                have v37 : aq.tmps[37]? = some (.slice (some ⟨g, o, none⟩) a.rl a.rc) := hf.val 1 37 (by kernel_rfl) rfl
                have v38 : aq.tmps[38]? = some (.int .i64 (j : Int)) := hf.val 2 38 (by kernel_rfl) rfl
                clear hf
                refine wpOp_flow rfl (by rfl) (fun Kq hK => ?_)
                have l1 := L1.out
                go_simp
                exact hK _ _ ⟨rfl, hSW⟩
              | 4, _ =>
                intro aq W hSW hf
                have v39 : aq.tmps[39]? = some (.pointer (some ⟨g, o + j * 3, none⟩)) := hf.val 3 39 (by kernel_rfl) rfl
                clear hf
                refine wpOp_flow rfl (by rfl) (fun Kq hK => ?_)
                go_simp
                exact hK _ _ ⟨rfl, hSW⟩
              | 5, _ =>
                intro aq W hSW hf
                have v40 : aq.tmps[40]? = some (.pointer (some ⟨g, o + j * 3, none⟩)) := hf.val 4 40 (by kernel_rfl) rfl
                clear hf
                refine wpOp_flow rfl (by rfl) (fun Kq hK => ?_)
                have k := C0.out W hSW
                go_simp
                exact hK _ _ ⟨rfl, hSW⟩
              | 6, _ =>
                intro aq W hSW hf
                have v3 : aq.tmps[3]? = some (.pointer (some ⟨w.heap.size + 1, 0, none⟩)) := (hf.at_base 3 (by kernel_rfl)).trans rfl
                clear hf
                refine wpOp_flow rfl (by rfl) (fun Kq hK => ?_)
                go_simp
                exact hK _ _ ⟨rfl, hSW⟩
              | 7, _ =>
                intro aq W hSW hf
                have v42 : aq.tmps[42]? = some (.pointer (some ⟨w.heap.size + 1, 10, none⟩)) := hf.val 6 42 (by kernel_rfl) rfl
                clear hf
                refine wpOp_flow rfl (by rfl) (fun Kq hK => ?_)
                have k := Y10.out W hSW
                go_simp
                exact hK _ _ ⟨rfl, hSW⟩
              | 8, _ =>
                intro aq W hSW hf
                have v5 : aq.tmps[5]? = some (.int .i64 (j : Int)) := (hf.at_base 5 (by kernel_rfl)).trans rfl
                clear hf
                refine wpOp_flow rfl (by rfl) (fun Kq hK => ?_)
                go_simp
                exact hK _ _ ⟨rfl, hSW⟩
              | 9, _ =>
                intro aq W hSW hf
                have v43 : aq.tmps[43]? = some (.slice (some ⟨g', o', none⟩) b.rl b.rc) := hf.val 7 43 (by kernel_rfl) rfl
                have v44 : aq.tmps[44]? = some (.int .i64 (j : Int)) := hf.val 8 44 (by kernel_rfl) rfl
                clear hf
                refine wpOp_flow rfl (by rfl) (fun Kq hK => ?_)
                have l1 := L2.out
                go_simp
                exact hK _ _ ⟨rfl, hSW⟩
              | 10, _ =>
                intro aq W hSW hf
                have v45 : aq.tmps[45]? = some (.pointer (some ⟨g', o' + j * 3, none⟩)) := hf.val 9 45 (by kernel_rfl) rfl
                clear hf
                refine wpOp_flow rfl (by rfl) (fun Kq hK => ?_)
                go_simp
                exact hK _ _ ⟨rfl, hSW⟩
              | 11, _ =>
                intro aq W hSW hf
                have v46 : aq.tmps[46]? = some (.pointer (some ⟨g', o' + j * 3, none⟩)) := hf.val 10 46 (by kernel_rfl) rfl
                clear hf
                refine wpOp_flow rfl (by rfl) (fun Kq hK => ?_)
                have k := D0.out W hSW
                go_simp
                exact hK _ _ ⟨rfl, hSW⟩
              | 12, _ =>
                intro aq W hSW hf
                have v41 : aq.tmps[41]? = some (.int .i64 s.flags) := hf.val 5 41 (by kernel_rfl) rfl
                have v47 : aq.tmps[47]? = some (.int .i64 t.flags) := hf.val 11 47 (by kernel_rfl) rfl
                clear hf
                refine wpOp_flow rfl (by rfl) (fun Kq hK => ?_)
                have hb := HF.out
                go_simp
                exact hK _ _ ⟨rfl, hSW⟩
              | 13, _ =>
                intro aq W hSW hf
                have v48 : aq.tmps[48]? = some (.bool true) := hf.val 12 48 (by kernel_rfl) rfl
                clear hf
                refine wpOp_flow rfl (by rfl) (fun Kq hK => ?_)
                go_simp
                exact hK _ _ ⟨rfl, hSW⟩
              | 14, _ =>
                intro aq W hSW hf
                have v49 : aq.tmps[49]? = some (.bool true) := hf.val 13 49 (by kernel_rfl) rfl
                clear hf
                exact wpOp_skip rfl (unwanted_of rfl rfl v49) ⟨rfl, hSW⟩
              | 15, _ =>
                intro aq W hSW hf
                have v49 : aq.tmps[49]? = some (.bool true) := hf.val 13 49 (by kernel_rfl) rfl
                clear hf
                exact wpOp_skip rfl (unwanted_of rfl rfl v49) ⟨rfl, hSW⟩
              | 16, _ =>
                intro aq W hSW hf
                have v49 : aq.tmps[49]? = some (.bool true) := hf.val 13 49 (by kernel_rfl) rfl
                clear hf
                exact wpOp_skip rfl (unwanted_of rfl rfl v49) ⟨rfl, hSW⟩
              | 17, _ =>
                intro aq W hSW hf
                have v49 : aq.tmps[49]? = some (.bool true) := hf.val 13 49 (by kernel_rfl) rfl
                clear hf
                exact wpOp_skip rfl (unwanted_of rfl rfl v49) ⟨rfl, hSW⟩
              | 18, _ =>
                intro aq W hSW hf
                have v49 : aq.tmps[49]? = some (.bool true) := hf.val 13 49 (by kernel_rfl) rfl
                clear hf
                exact wpOp_skip rfl (unwanted_of rfl rfl v49) ⟨rfl, hSW⟩
              | 19, _ =>
                intro aq W hSW hf
                have v49 : aq.tmps[49]? = some (.bool true) := hf.val 13 49 (by kernel_rfl) rfl
                clear hf
                exact wpOp_skip rfl (unwanted_of rfl rfl v49) ⟨rfl, hSW⟩
              | 20, _ =>
                intro aq W hSW hf
                have v49 : aq.tmps[49]? = some (.bool true) := hf.val 13 49 (by kernel_rfl) rfl
                clear hf
                exact wpOp_skip rfl (unwanted_of rfl rfl v49) ⟨rfl, hSW⟩
              | 21, _ =>
                intro aq W hSW hf
                have v49 : aq.tmps[49]? = some (.bool true) := hf.val 13 49 (by kernel_rfl) rfl
                clear hf
                exact wpOp_skip rfl (unwanted_of rfl rfl v49) ⟨rfl, hSW⟩
              | 22, _ =>
                intro aq W hSW hf
                have v49 : aq.tmps[49]? = some (.bool true) := hf.val 13 49 (by kernel_rfl) rfl
                clear hf
                exact wpOp_skip rfl (unwanted_of rfl rfl v49) ⟨rfl, hSW⟩
              | 23, _ =>
                intro aq W hSW hf
                have v49 : aq.tmps[49]? = some (.bool true) := hf.val 13 49 (by kernel_rfl) rfl
                clear hf
                exact wpOp_skip rfl (unwanted_of rfl rfl v49) ⟨rfl, hSW⟩
              | 24, _ =>
                intro aq W hSW hf
                have v49 : aq.tmps[49]? = some (.bool true) := hf.val 13 49 (by kernel_rfl) rfl
                clear hf
                exact wpOp_skip rfl (unwanted_of rfl rfl v49) ⟨rfl, hSW⟩
              | 25, _ =>
                intro aq W hSW hf
                have v49 : aq.tmps[49]? = some (.bool true) := hf.val 13 49 (by kernel_rfl) rfl
                clear hf
                exact wpOp_skip rfl (unwanted_of rfl rfl v49) ⟨rfl, hSW⟩
              | 26, _ =>
                intro aq W hSW hf
                have v49 : aq.tmps[49]? = some (.bool true) := hf.val 13 49 (by kernel_rfl) rfl
                clear hf
                exact wpOp_skip rfl (unwanted_of rfl rfl v49) ⟨rfl, hSW⟩
              | 27, _ =>
                intro aq W hSW hf
                have v49 : aq.tmps[49]? = some (.bool true) := hf.val 13 49 (by kernel_rfl) rfl
                have v62 : aq.tmps[62]? = some (undef) := hf.val 26 62 (by kernel_rfl) rfl
                clear hf
                refine wpOp_flow rfl (by rfl) (fun Kq hK => ?_)
                go_simp
                exact hK _ _ ⟨rfl, hSW⟩
              | 28, _ =>
                intro aq W hSW hf
                have v63 : aq.tmps[63]? = some (.bool true) := hf.val 27 63 (by kernel_rfl) rfl
                clear hf
                refine wpOp_flow rfl (by rfl) (fun Kq hK => ?_)
                go_simp
                exact hK _ _ ⟨rfl, hSW⟩
              | 29, _ =>
                intro aq W hSW hf
                have v64 : aq.tmps[64]? = some (.bool true) := hf.val 28 64 (by kernel_rfl) rfl
                clear hf
                exact wpOp_skip rfl (unwanted_of rfl rfl v64) ⟨rfl, hSW⟩
              | 30, _ =>
                intro aq W hSW hf
                have v64 : aq.tmps[64]? = some (.bool true) := hf.val 28 64 (by kernel_rfl) rfl
                clear hf
                exact wpOp_skip rfl (unwanted_of rfl rfl v64) ⟨rfl, hSW⟩
              | 31, _ =>
                intro aq W hSW hf
                have v64 : aq.tmps[64]? = some (.bool true) := hf.val 28 64 (by kernel_rfl) rfl
                clear hf
                exact wpOp_skip rfl (unwanted_of rfl rfl v64) ⟨rfl, hSW⟩
              | 32, _ =>
                intro aq W hSW hf
                have v64 : aq.tmps[64]? = some (.bool true) := hf.val 28 64 (by kernel_rfl) rfl
                clear hf
                exact wpOp_skip rfl (unwanted_of rfl rfl v64) ⟨rfl, hSW⟩
              | 33, _ =>
                intro aq W hSW hf
                have v64 : aq.tmps[64]? = some (.bool true) := hf.val 28 64 (by kernel_rfl) rfl
                clear hf
                exact wpOp_skip rfl (unwanted_of rfl rfl v64) ⟨rfl, hSW⟩
              | 34, _ =>
                intro aq W hSW hf
                have v64 : aq.tmps[64]? = some (.bool true) := hf.val 28 64 (by kernel_rfl) rfl
                clear hf
                exact wpOp_skip rfl (unwanted_of rfl rfl v64) ⟨rfl, hSW⟩
              | 35, _ =>
                intro aq W hSW hf
                have v64 : aq.tmps[64]? = some (.bool true) := hf.val 28 64 (by kernel_rfl) rfl
                clear hf
                exact wpOp_skip rfl (unwanted_of rfl rfl v64) ⟨rfl, hSW⟩
              | 36, _ =>
                intro aq W hSW hf
                have v64 : aq.tmps[64]? = some (.bool true) := hf.val 28 64 (by kernel_rfl) rfl
                clear hf
                exact wpOp_skip rfl (unwanted_of rfl rfl v64) ⟨rfl, hSW⟩
              | 37, _ =>
                intro aq W hSW hf
                have v64 : aq.tmps[64]? = some (.bool true) := hf.val 28 64 (by kernel_rfl) rfl
                clear hf
                exact wpOp_skip rfl (unwanted_of rfl rfl v64) ⟨rfl, hSW⟩
              | 38, _ =>
                intro aq W hSW hf
                have v64 : aq.tmps[64]? = some (.bool true) := hf.val 28 64 (by kernel_rfl) rfl
                clear hf
                exact wpOp_skip rfl (unwanted_of rfl rfl v64) ⟨rfl, hSW⟩
              | 39, _ =>
                intro aq W hSW hf
                have v64 : aq.tmps[64]? = some (.bool true) := hf.val 28 64 (by kernel_rfl) rfl
                clear hf
                exact wpOp_skip rfl (unwanted_of rfl rfl v64) ⟨rfl, hSW⟩
              | 40, _ =>
                intro aq W hSW hf
                have v64 : aq.tmps[64]? = some (.bool true) := hf.val 28 64 (by kernel_rfl) rfl
                clear hf
                exact wpOp_skip rfl (unwanted_of rfl rfl v64) ⟨rfl, hSW⟩
              | 41, _ =>
                intro aq W hSW hf
                have v64 : aq.tmps[64]? = some (.bool true) := hf.val 28 64 (by kernel_rfl) rfl
                clear hf
                exact wpOp_skip rfl (unwanted_of rfl rfl v64) ⟨rfl, hSW⟩
              | 42, _ =>
                intro aq W hSW hf
                have v64 : aq.tmps[64]? = some (.bool true) := hf.val 28 64 (by kernel_rfl) rfl
                clear hf
                exact wpOp_skip rfl (unwanted_of rfl rfl v64) ⟨rfl, hSW⟩
              | 43, _ =>
                intro aq W hSW hf
                have v64 : aq.tmps[64]? = some (.bool true) := hf.val 28 64 (by kernel_rfl) rfl
                have v78 : aq.tmps[78]? = some (undef) := hf.val 42 78 (by kernel_rfl) rfl
                clear hf
                refine wpOp_flow rfl (by rfl) (fun Kq hK => ?_)
                go_simp
                exact hK _ _ ⟨rfl, hSW⟩
              | kq + 44, hk => exact absurd hk (by first | omega | (intro h; simp at h; omega))
            · simp only [puts, Act.put, List.setIfInBounds_toArray, List.set_cons_zero, List.set_cons_succ]
              have HB2 := hidp (HS.out.below hSW)
              clear hSW
              go_wp2
              go_ret
              exact ⟨by rw [HQ.out]; rfl, HB2.out.bel⟩
        · have l1 : ¬ (j : Int) < (a.rl : Int) := by omega
          obtain rfl : j = a.rl := by omega
          have hq3 : decide (a.raws.map Rw.key = b.raws.map Rw.key) = true := by
            have := HP.out
            rw [List.take_of_length_le (by rw [HS.out.ax.raws.2]; omega), List.take_of_length_le (by rw [HS.out.bx.raws.2, ← HLL.out]; omega)] at this
            simpa using this
          have hRR := HR.out
          rw [← HQ3.out, hq3] at hRR
          have HRR := hidp hRR
          clear hq3 hRR
          have x0 := cellOf HS.out.x 0 (v := .int .i64 a.origin) rfl
          have y0 := cellOf HS.out.y 0 (v := .int .i64 b.origin) rfl
          have x2 := cellOf HS.out.x 2 (v := .int .u32 a.next) rfl
          have y2 := cellOf HS.out.y 2 (v := .int .u32 b.next) rfl
          have x3 := cellOf HS.out.x 3 (v := .int .i64 a.med) rfl
          have y3 := cellOf HS.out.y 3 (v := .int .i64 b.med) rfl
          have x4 := cellOf HS.out.x 4 (v := .int .i64 a.pref) rfl
          have y4 := cellOf HS.out.y 4 (v := .int .i64 b.pref) rfl
          have x5 := cellOf HS.out.x 5 (v := .bool a.atomic) rfl
          have y5 := cellOf HS.out.y 5 (v := .bool b.atomic) rfl
          have x6 := cellOf HS.out.x 6 (v := .bool a.hasAggr) rfl
          have y6 := cellOf HS.out.y 6 (v := .bool b.hasAggr) rfl
          have x7 := cellOf HS.out.x 7 (v := .int .u32 a.aas) rfl
          have y7 := cellOf HS.out.y 7 (v := .int .u32 b.aas) rfl
          have x8 := cellOf HS.out.x 8 (v := .int .u32 a.aad) rfl
          have y8 := cellOf HS.out.y 8 (v := .int .u32 b.aad) rfl
          cases r1 with
          | false =>
            have n1 : ¬ a.origin = b.origin := by simpa using hr1
            go_wp2
            go_ret
            exact ⟨by rw [HRR.out]; rfl, HS.out.bel⟩
          | true =>
            have n1 : a.origin = b.origin := by simpa using hr1
            cases r2 with
            | false =>
              have n2 : ¬ a.next = b.next := by simpa using hr2
              go_wp2
              go_ret
              exact ⟨by rw [HRR.out]; rfl, HS.out.bel⟩
            | true =>
              have n2 : a.next = b.next := by simpa using hr2
              cases r3 with
              | false =>
                have n3 : ¬ a.med = b.med := by simpa using hr3
                go_wp2
                go_ret
                exact ⟨by rw [HRR.out]; rfl, HS.out.bel⟩
              | true =>
                have n3 : a.med = b.med := by simpa using hr3
                cases r4 with
                | false =>
                  have n4 : ¬ a.pref = b.pref := by simpa using hr4
                  go_wp2
                  go_ret
                  exact ⟨by rw [HRR.out]; rfl, HS.out.bel⟩
                | true =>
                  have n4 : a.pref = b.pref := by simpa using hr4
                  cases r5 with
                  | false =>
                    have n5 : ¬ a.atomic = b.atomic := by simpa using hr5
                    go_wp2
                    go_ret
                    exact ⟨by rw [HRR.out]; rfl, HS.out.bel⟩
                  | true =>
                    have n5 : a.atomic = b.atomic := by simpa using hr5
                    cases r6 with
                    | false =>
                      have n6 : ¬ a.hasAggr = b.hasAggr := by simpa using hr6
                      go_wp2
                      go_ret
                      exact ⟨by rw [HRR.out]; rfl, HS.out.bel⟩
                    | true =>
                      have n6 : a.hasAggr = b.hasAggr := by simpa using hr6
                      cases r7 with
                      | false =>
                        have n7 : ¬ a.aas = b.aas := by simpa using hr7
                        go_wp2
                        go_ret
                        exact ⟨by rw [HRR.out]; rfl, HS.out.bel⟩
                      | true =>
                        have n7 : a.aas = b.aas := by simpa using hr7
                        cases r8 with
                        | false =>
                          have n8 : ¬ a.aad = b.aad := by simpa using hr8
                          go_wp2
                          go_ret
                          exact ⟨by rw [HRR.out]; rfl, HS.out.bel⟩
                        | true =>
                          have n8 : a.aad = b.aad := by simpa using hr8
                          go_wp2
                          go_ret
                          exact ⟨by rw [HRR.out]; rfl, HS.out.bel⟩
  · have hQ : sameA a b = false := by
      have h3 : decide (a.raws.map Rw.key = b.raws.map Rw.key) = false := by
        simp only [decide_eq_false_iff_not]
        intro e
        have := congrArg List.length e
        simp only [List.length_map] at this
        rw [H0.out.ax.raws.2, H0.out.bx.raws.2] at this
        exact hl this
      rw [HR.out, ← HQ3.out, h3]
      simp
    have HQ := hidp hQ
    have n0 : ((a.rl : Int) == (b.rl : Int)) = false := by simp; omega
    clear hQ
    go_wp2
    go_ret
    exact ⟨by rw [HQ.out]; rfl, H0.out.bel⟩
end Go.Proofs.Ytnenpfalhbbadaa
