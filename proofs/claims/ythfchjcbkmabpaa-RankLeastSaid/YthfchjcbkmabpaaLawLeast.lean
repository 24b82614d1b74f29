/- RankLeast answers true: no candidate has a greater Pref than the best, nor with that a shorter path, nor with both a lesser origin, nor with all that, and from the same neighbour, a lesser Med; of candidates that are not few, or none, only the example is asked. -/
import Derived.Test.YthfchjcbkmabpaaRJ
import Derived.Test.YthfchjcbkmabpaaRW
namespace Go.Proofs.Ythfchjcbkmabpaa
open Go.RowKit

section
variable (K : Nat → Nat → Int) (Nr : Nat → Int)
theorem win_T {xs : List Nat} {at' : Nat} (h : Win K Nr xs at') : ∀ k ∈ xs, lle (tK K at') (tK K k) := fun k hk => by
  obtain ⟨g, hg, hn, hle⟩ := group_of K Nr xs k hk
  have h1 := h.all g hg hle
  have h2 := hle k hk hn.symm
  exact lle_trans (b := tK K g) rfl rfl (lle_append_left (b := tK K g) rfl h1) (lle_append_left (b := tK K k) rfl h2)
theorem win_least {xs : List Nat} {x : Nat} (h : Win K Nr xs x) {y : Nat} (hy : y ∈ xs) :
    K x 0 ≤ K y 0 ∧ (K x 0 = K y 0 → K x 1 ≤ K y 1) ∧ (K x 0 = K y 0 → K x 1 = K y 1 → K x 2 ≤ K y 2) ∧ (K x 0 = K y 0 → K x 1 = K y 1 → K x 2 = K y 2 → Nr x = Nr y → K x 3 ≤ K y 3) := by
  have hT := win_T K Nr h y hy
  simp only [tK, lle] at hT
  refine ⟨by omega, fun _ => by omega, fun _ _ => by omega, fun h0 h1 h2 hn => ?_⟩
  have hv := h.near y hy hn.symm
  have et : tK K x = tK K y := by simp only [tK, h0, h1, h2]
  unfold vK at hv
  rw [et, lle_append_same] at hv
  simp only [if_true, List.cons_append, List.nil_append, lle] at hv
  omega
end
theorem pre_wrap {c : Cnd} (h : fewP c) : IntKind.i64.wrap (-c.pre) = -c.pre := by
  obtain ⟨_, h1, h2⟩ := h
  have hp : -1 ≤ c.pre ∧ c.pre ≤ 4294967296 := by unfold Cnd.pre; split <;> omega
  rw [← wrap64_k]
  simp only [wrap64]
  omega
/-- what the law asks of a candidate beside the best -/
structure LeastP (x y : Cnd) : Prop where
  p : y.pre ≤ x.pre
  n : y.pre = x.pre → cnt x.segs ≤ cnt y.segs
  o : y.pre = x.pre → cnt y.segs = cnt x.segs → x.origin ≤ y.origin
  m : y.pre = x.pre → cnt y.segs = cnt x.segs → y.origin = x.origin → y.near = x.near → x.md ≤ y.md
theorem least_of_best {L : List Cnd} {r : Int} (h : PBest L r) (hp : ∀ c ∈ L, fewP c) (hne : 0 < L.length) :
    ∃ (i : Nat) (hi : i < L.length), r = (i : Nat) ∧ ∀ (j : Nat) (hj : j < L.length), LeastP L[i] L[j] := by
  obtain ⟨i, rfl, hw⟩ := h.2 (by intro h0; have := congrArg List.length h0; rw [List.length_range] at this; simp only [List.length_nil] at this; omega)
  have hi : i < L.length := List.mem_range.1 hw.mem
  refine ⟨i, hi, rfl, fun j hj => ?_⟩
  obtain ⟨h0, h1, h2, h3⟩ := win_least (KL L) (NL L) hw (List.mem_range.2 hj)
  have ki : KL L i = L[i].key := by simp [KL, List.getD, hi]
  have kj : KL L j = L[j].key := by simp [KL, List.getD, hj]
  have ni : NL L i = L[i].near := by simp [NL, List.getD, hi]
  have nj : NL L j = L[j].near := by simp [NL, List.getD, hj]
  have pi := pre_wrap (hp _ (List.getElem_mem hi))
  have pj := pre_wrap (hp _ (List.getElem_mem hj))
  rw [ki, kj] at h0 h1 h2 h3
  rw [ni, nj] at h3
  generalize L[i] = x at *
  generalize L[j] = y at *
  have e0 : x.key 0 = -x.pre := pi
  have f0 : y.key 0 = -y.pre := pj
  rw [e0, f0] at h0 h1 h2 h3
  exact ⟨by omega, fun h => h1 (by omega), fun h e => h2 (by omega) e.symm, fun h e e2 e3 => h3 (by omega) e.symm e2.symm e3.symm⟩

theorem all_one16 (c : Cnd) : c.cells.toArray.all (·.oneCell') = true := by simp [Cnd.cells, Value.oneCell']
structure SX1 (bx : Nat) (x : Cnd) (w W : World) : Prop where
  blkX : W.heap[bx]? = some (.cells x.cells.toArray 34 (0, 0))
  bel : Below w.heap.size w W
structure SX (bx bY : Nat) (x y : Cnd) (w W : World) : Prop where
  blkX : W.heap[bx]? = some (.cells x.cells.toArray 34 (0, 0))
  blkY : W.heap[bY]? = some (.cells y.cells.toArray 34 (0, 0))
  bel : Below w.heap.size w W
theorem SX1.below {bx : Nat} {x : Cnd} {w W W' : World} (h : SX1 bx x w W) (hB : Below W.heap.size W W') : SX1 bx x w W' :=
  ⟨heap_below hB h.blkX (ltOf h.blkX), h.bel.trans (hB.mono h.bel.size)⟩
theorem SX1.alloc {bx : Nat} {x : Cnd} {w W : World} (h : SX1 bx x w W) (y : Cnd) : SX bx W.heap.size x y w (W.alloc (.cells y.cells.toArray 34)) :=
  ⟨heap_alloc_at h.blkX _, heap_alloc_new W _, h.bel.alloc h.bel.size _⟩
theorem SX.below {bx bY : Nat} {x y : Cnd} {w W W' : World} (h : SX bx bY x y w W) (hB : Below W.heap.size W W') : SX bx bY x y w W' :=
  ⟨heap_below hB h.blkX (ltOf h.blkX), heap_below hB h.blkY (ltOf h.blkY), h.bel.trans (hB.mono h.bel.size)⟩
theorem SX.drew {bx bY : Nat} {x y : Cnd} {w W : World} (h : SX bx bY x y w W) : SX bx bY x y w W.drew := ⟨h.blkX, h.blkY, h.bel.drew⟩
theorem SX.one {bx bY : Nat} {x y : Cnd} {w W : World} (h : SX bx bY x y w W) : SX1 bx x w W := ⟨h.blkX, h.bel⟩
/-- and what was there at a place in the walk -/
structure SXX (bx bY : Nat) (x y : Cnd) (w w5 W : World) : Prop where
  s : SX bx bY x y w W
  bel : Below w5.heap.size w5 W
theorem SXX.below {bx bY : Nat} {x y : Cnd} {w w5 W W' : World} (h : SXX bx bY x y w w5 W) (hB : Below W.heap.size W W') : SXX bx bY x y w w5 W' := ⟨h.s.below hB, h.bel.trans (hB.mono h.bel.size)⟩
theorem SXX.drew {bx bY : Nat} {x y : Cnd} {w w5 W : World} (h : SXX bx bY x y w w5 W) : SXX bx bY x y w w5 W.drew := ⟨h.s.drew, h.bel.drew⟩
theorem SXX.drewN {bx bY : Nat} {x y : Cnd} {w w5 W : World} (h : SXX bx bY x y w w5 W) (k : Nat) : SXX bx bY x y w w5 (W.drewN k) := h.below (below_drewN (Below.refl _ _) k)
theorem SX1.drewN {bx : Nat} {x : Cnd} {w W : World} (h : SX1 bx x w W) (k : Nat) : SX1 bx x w (W.drewN k) := h.below (below_drewN (Below.refl _ _) k)
theorem SX.rX {bx bY : Nat} {x y : Cnd} {w W : World} (h : SX bx bY x y w W) : W.rangeAt bx 0 x.cells := fun j v hv => cellOf h.blkX (0 + j) (by simpa using hv)
theorem SX.rY {bx bY : Nat} {x y : Cnd} {w W : World} (h : SX bx bY x y w W) : W.rangeAt bY 0 y.cells := fun j v hv => cellOf h.blkY (0 + j) (by simpa using hv)

set_option maxRecDepth 100000 in
set_option maxHeartbeats 4000000 in
theorem lawLeast_any (L : List Cnd) (a : Option Addr) (n c : Nat) (w : World) (hL : CandsV w a n L) :
    Calls Try.prog 5 #[.slice a n c] w fun e w' => e = .returned (.bool true) ∧ Below w.heap.size w w' := by
  have HL := hidp hL
  clear hL
  go_enter Try.func5, Try.ntmps5
  go_upto_region 1 with (fail)
  go_wp2_with fail
  refine (few2_any L a n c 40 w HL.out (by decide)).mono ?_
  rintro e w1 ⟨⟨b, rfl, hb⟩, B1⟩
  have HB1 := hidp B1
  clear B1
  cases b with
  | false =>
    clear hb
    go_wp2_with (first
      | (go_at_call 9; refine (awake_any _).mono ?_; rintro e w2 ⟨rfl, B2⟩
         have H2 := hidp (HB1.out.trans (B2.mono HB1.out.size))
         clear B2))
    go_ret
    exact ⟨rfl, H2.out⟩
  | true =>
    obtain ⟨hn, hp⟩ := hb rfl
    by_cases h0 : n = 0
    · subst h0
      clear hb hp
      go_wp2_with (first
        | (go_at_call 9; refine (awake_any _).mono ?_; rintro e w2 ⟨rfl, B2⟩
           have H2 := hidp (HB1.out.trans (B2.mono HB1.out.size))
           clear B2))
      go_ret
      exact ⟨rfl, H2.out⟩
    have l0 : ((n : Int) == 0) = false := by simp; omega
    have HPL := hidp (show ∀ c ∈ L, c.pl ≤ 1000000 from fun c hc => Nat.le_trans (hp c hc).1 (by decide))
    have hls : ∀ r, PBest L r → ∃ (i : Nat) (hi : i < L.length), r = (i : Nat) ∧ ∀ (j : Nat) (hj : j < L.length), LeastP L[i] L[j] := fun r hr => least_of_best hr hp (by rw [HL.out.len]; omega)
    have HLS := hidp hls
    clear hb hp hls
    go_wp2_with (first
      | (go_at_call 10; refine (pbest_any L a n c _ (HL.out.below HB1.out) (by omega) HPL.out).mono ?_; rintro e w2 ⟨⟨r, rfl, hr⟩, B2⟩
         obtain ⟨q, hq, rfl, hlp⟩ := HLS.out r hr
         have hB2 := HB1.out.trans (B2.mono HB1.out.size)
         have hqn : q < n := by rw [← HL.out.len]; exact hq
         have l1 : ¬ (q : Int) < 0 := by omega
         have l2 : ¬ (q : Int) ≥ n := by omega
         have l3 : (q : Int) < n := by omega
         have hL2 := HL.out.below hB2
         obtain ⟨g, o, rfl, hrw⟩ := hL2.rows (by omega)
         have hxr := hrw q hq
         have hxa := hL2.ats _ (List.getElem_mem hq)
         have hxm := HPL.out _ (List.getElem_mem hq)
         generalize L[q] = x at *
         have HXR := hidp hxr
         have HX := hidp (And.intro hxa hxm)
         have HLP := hidp hlp
         have HB2 := hidp hB2
         have HRW := hidp hrw
         clear hxr hxa hxm hlp hB2 hrw hL2 hr B2)
      | (with_reducible refine wpList_load_mid rfl 34 (.tmp 30) rfl g (o + q * 16) rfl x.cells _ HXR.out Try.underlying34 rfl (by rw [Cnd.len]; exact Try.info34) ?_)
      | (with_reducible refine wpList_store_row rfl 34 (.tmp 4) (.tmp 31) rfl w2.heap.size x.cells.toArray rfl rfl 34 _ (heap_alloc_new w2 _) (by rw [List.size_toArray, Cnd.len]; exact Try.info34) rfl (all_one16 x) ?_
         rw [World.setRow_alloc_new]
         have hS0 : SX1 w2.heap.size x w (w2.alloc (.cells x.cells.toArray 34)) := ⟨heap_alloc_new w2 _, HB2.out.alloc HB2.out.size _⟩
         have hB3 : Below w2.heap.size w2 (w2.alloc (.cells x.cells.toArray 34)) := (Below.refl _ _).alloc (Nat.le_refl _) _
         generalize w2.alloc (.cells x.cells.toArray 34) = w3 at *
         have HS0 := hidp hS0
         have HB3 := hidp hB3
         clear hS0 hB3))
    go_loopw [5] (fun i wr => ∃ j : Nat, j ≤ n ∧ i = .int .i64 j ∧ SX1 w2.heap.size x w wr ∧ Below w2.heap.size w2 wr) (fun i _ => n - (intOf i).toNat)
    case atStart => exact ⟨0, by omega, rfl, HS0.out, HB3.out⟩
    case round =>
      obtain ⟨j, hj, rfl, hS, hB⟩ := hrel
      obtain ⟨w4, rfl⟩ : ∃ w4, w4 = wr := ⟨_, rfl⟩
      clear HS0 HB3
      by_cases hlt : j < n
      · have l5 : (j : Int) < (n : Int) := by omega
        have hjl : j < L.length := by rw [HL.out.len]; exact hlt
        have hyr : w4.rangeAt g (o + j * 16) L[j].cells := fun k v hv => below_cell hB (Nat.le_refl _) _ _ (HRW.out j hjl k v hv)
        have hya : L[j].at w4 := (HL.out.below hS.bel).ats _ (List.getElem_mem hjl)
        have hym := HPL.out _ (List.getElem_mem hjl)
        have hly := HLP.out j hjl
        generalize L[j] = y at *
        have HYR := hidp hyr
        have hxa : x.at w4 := HX.out.1.below hB
        have HY := hidp (And.intro hya hxa)
        have HLY := hidp hly
        have HW := hidp (And.intro hS hB)
        clear hyr hya hly hxa hS hB
        go_wp2_with (first
          | (with_reducible refine wpList_load_mid rfl 34 (.tmp 40) rfl g (o + j * 16) rfl y.cells _ HYR.out Try.underlying34 rfl (by rw [Cnd.len]; exact Try.info34) ?_)
          | (with_reducible refine wpList_store_row rfl 34 (.tmp 6) (.tmp 41) rfl w4.heap.size y.cells.toArray rfl rfl 34 _ (heap_alloc_new w4 _) (by rw [List.size_toArray, Cnd.len]; exact Try.info34) rfl (all_one16 y) ?_
             rw [World.setRow_alloc_new]
             have hS0 : SX w2.heap.size w4.heap.size x y w (w4.alloc (.cells y.cells.toArray 34)) := HW.out.1.alloc y
             have hB4 : Below w4.heap.size w4 (w4.alloc (.cells y.cells.toArray 34)) := (Below.refl _ _).alloc (Nat.le_refl _) _
             generalize w4.alloc (.cells y.cells.toArray 34) = w5 at *
             have HS5 := hidp hS0
             have HB4 := hidp hB4
             clear hS0 hB4))
        have hyx : y.at w5 ∧ x.at w5 := ⟨HY.out.1.below HB4.out, HY.out.2.below HB4.out⟩
        have hB5 : Below w2.heap.size w2 w5 := HW.out.2.trans (HB4.out.mono HW.out.2.size)
        have HB5 := hidp hB5
        have HYX := hidp hyx
        have hS5 := HS5.out
        have hs5 : w4.heap.size < w5.heap.size := ltOf hS5.blkY
        have hs4 : w2.heap.size < w4.heap.size := ltOf HW.out.1.blkX
        generalize w4.heap.size = bY at *
        have hd5 : SXX w2.heap.size bY x y w w5 w5.drew := ⟨hS5.drew, (Below.refl _ _).drew⟩
        clear hyx hB5 hS5 HY HYR HW HB4 HS5
        refine wp_region_flow2 (fun iqv => ([(y.val : Value), (.int .i64 y.pre : Value), (x.val : Value), (.int .i64 x.pre : Value), (.bool (y.pre != x.pre) : Value)] : List Value).getD iqv undef) [(some 42, y.val), (some 43, .int .i64 y.pre), (some 44, x.val), (some 45, .int .i64 x.pre), (some 46, .bool (y.pre != x.pre))] (fun W : World => SXX w2.heap.size bY x y w w5 W) (by kernel_rfl) (by kernel_rfl) hd5 (fun iq hiq => ?_) (by kernel_rfl) (fun W hSW => ?_)
        · match iq, hiq with
          | 0, _ =>
            intro aq W hSW hf
            have v6 : aq.tmps[6]? = some (.pointer (some ⟨bY, 0, none⟩)) := (hf.at_base 6 (by kernel_rfl)).trans rfl
            clear hf
            refine wpOp_flow rfl (by rfl) (fun Kq hK => ?_)
            refine wp_load_mid 34 (.tmp 6) rfl bY 0 (eval_of v6) y.cells _ hSW.s.rY Try.underlying34 rfl (by rw [Cnd.len]; exact Try.info34) (hK _ _ ⟨rfl, hSW⟩)
          | 1, _ =>
            intro aq W hSW hf
            have v42 : aq.tmps[42]? = some (y.val) := hf.val 0 42 (by kernel_rfl) rfl
            clear hf
            refine wpOp_flow rfl (by rfl) (fun Kq hK => ?_)
            go_simp
            refine (pref_any y _).mono ?_
            rintro e w9 ⟨rfl, B9⟩
            exact hK _ _ ⟨rfl, hSW.below B9⟩
          | 2, _ =>
            intro aq W hSW hf
            have v4 : aq.tmps[4]? = some (.pointer (some ⟨w2.heap.size, 0, none⟩)) := (hf.at_base 4 (by kernel_rfl)).trans rfl
            clear hf
            refine wpOp_flow rfl (by rfl) (fun Kq hK => ?_)
            refine wp_load_mid 34 (.tmp 4) rfl w2.heap.size 0 (eval_of v4) x.cells _ hSW.s.rX Try.underlying34 rfl (by rw [Cnd.len]; exact Try.info34) (hK _ _ ⟨rfl, hSW⟩)
          | 3, _ =>
            intro aq W hSW hf
            have v44 : aq.tmps[44]? = some (x.val) := hf.val 2 44 (by kernel_rfl) rfl
            clear hf
            refine wpOp_flow rfl (by rfl) (fun Kq hK => ?_)
            go_simp
            refine (pref_any x _).mono ?_
            rintro e w9 ⟨rfl, B9⟩
            exact hK _ _ ⟨rfl, hSW.below B9⟩
          | 4, _ =>
            intro aq W hSW hf
            have v43 : aq.tmps[43]? = some (.int .i64 y.pre) := hf.val 1 43 (by kernel_rfl) rfl
            have v45 : aq.tmps[45]? = some (.int .i64 x.pre) := hf.val 3 45 (by kernel_rfl) rfl
            clear hf
            refine wpOp_flow rfl (by rfl) (fun Kq hK => ?_)
            go_simp
            exact hK _ _ ⟨rfl, hSW⟩
          | kq + 5, hk => exact absurd hk (by first | omega | (intro h; simp at h; omega))
        · simp only [puts, Act.put, List.setIfInBounds_toArray, List.set_cons_zero, List.set_cons_succ]
          by_cases hpe : y.pre = x.pre
          · have l6 : (y.pre != x.pre) = false := by simpa using hpe
            obtain ⟨w6, rfl⟩ : ∃ w6, w6 = W := ⟨_, rfl⟩
            have hd6 := hSW.drew
            clear hSW
            go_wp2
            refine wp_region_flow2 (fun iqv => ([(.pointer (some ⟨bY, 5, none⟩) : Value), (.pointer (some ⟨bY, 6, none⟩) : Value), (.slice y.pa y.pl y.pc : Value), (.int .i64 (cnt y.segs) : Value), (.pointer (some ⟨w2.heap.size, 5, none⟩) : Value), (.pointer (some ⟨w2.heap.size, 6, none⟩) : Value), (.slice x.pa x.pl x.pc : Value), (.int .i64 (cnt x.segs) : Value), (.int .i64 (cnt y.segs) : Value), (.int .i64 (cnt x.segs) : Value)] : List Value).getD iqv undef) [(some 52, .pointer (some ⟨bY, 5, none⟩)), (some 53, .pointer (some ⟨bY, 6, none⟩)), (some 54, .slice y.pa y.pl y.pc), (some 55, .int .i64 (cnt y.segs)), (some 56, .pointer (some ⟨w2.heap.size, 5, none⟩)), (some 57, .pointer (some ⟨w2.heap.size, 6, none⟩)), (some 58, .slice x.pa x.pl x.pc), (some 59, .int .i64 (cnt x.segs)), (some 7, .int .i64 (cnt y.segs)), (some 8, .int .i64 (cnt x.segs))] (fun W : World => SXX w2.heap.size bY x y w w5 W) (by kernel_rfl) (by kernel_rfl) hd6 (fun iq hiq => ?_) (by kernel_rfl) (fun W hSW => ?_)
            · match iq, hiq with
              | 0, _ =>
                intro aq W hSW hf
                have v6 : aq.tmps[6]? = some (.pointer (some ⟨bY, 0, none⟩)) := (hf.at_base 6 (by kernel_rfl)).trans rfl
                clear hf
                refine wpOp_flow rfl (by rfl) (fun Kq hK => ?_)
                go_simp
                exact hK _ _ ⟨rfl, hSW⟩
              | 1, _ =>
                intro aq W hSW hf
                have v52 : aq.tmps[52]? = some (.pointer (some ⟨bY, 5, none⟩)) := hf.val 0 52 (by kernel_rfl) rfl
                clear hf
                refine wpOp_flow rfl (by rfl) (fun Kq hK => ?_)
                go_simp
                exact hK _ _ ⟨rfl, hSW⟩
              | 2, _ =>
                intro aq W hSW hf
                have v53 : aq.tmps[53]? = some (.pointer (some ⟨bY, 6, none⟩)) := hf.val 1 53 (by kernel_rfl) rfl
                clear hf
                refine wpOp_flow rfl (by rfl) (fun Kq hK => ?_)
                have ck := cellOf hSW.s.blkY 6 (v := .slice y.pa y.pl y.pc) rfl
                go_simp
                exact hK _ _ ⟨rfl, hSW⟩
              | 3, _ =>
                intro aq W hSW hf
                have v54 : aq.tmps[54]? = some (.slice y.pa y.pl y.pc) := hf.val 2 54 (by kernel_rfl) rfl
                clear hf
                refine wpOp_flow rfl (by rfl) (fun Kq hK => ?_)
                go_simp
                refine (rcount_any _ _ _ y.segs _ (HYX.out.1.below hSW.bel) hym).mono ?_
                rintro e w9 ⟨rfl, B9⟩
                exact hK _ _ ⟨rfl, hSW.below B9⟩
              | 4, _ =>
                intro aq W hSW hf
                have v4 : aq.tmps[4]? = some (.pointer (some ⟨w2.heap.size, 0, none⟩)) := (hf.at_base 4 (by kernel_rfl)).trans rfl
                clear hf
                refine wpOp_flow rfl (by rfl) (fun Kq hK => ?_)
                go_simp
                exact hK _ _ ⟨rfl, hSW⟩
              | 5, _ =>
                intro aq W hSW hf
                have v56 : aq.tmps[56]? = some (.pointer (some ⟨w2.heap.size, 5, none⟩)) := hf.val 4 56 (by kernel_rfl) rfl
                clear hf
                refine wpOp_flow rfl (by rfl) (fun Kq hK => ?_)
                go_simp
                exact hK _ _ ⟨rfl, hSW⟩
              | 6, _ =>
                intro aq W hSW hf
                have v57 : aq.tmps[57]? = some (.pointer (some ⟨w2.heap.size, 6, none⟩)) := hf.val 5 57 (by kernel_rfl) rfl
                clear hf
                refine wpOp_flow rfl (by rfl) (fun Kq hK => ?_)
                have ck := cellOf hSW.s.blkX 6 (v := .slice x.pa x.pl x.pc) rfl
                go_simp
                exact hK _ _ ⟨rfl, hSW⟩
              | 7, _ =>
                intro aq W hSW hf
                have v58 : aq.tmps[58]? = some (.slice x.pa x.pl x.pc) := hf.val 6 58 (by kernel_rfl) rfl
                clear hf
                refine wpOp_flow rfl (by rfl) (fun Kq hK => ?_)
                go_simp
                refine (rcount_any _ _ _ x.segs _ (HYX.out.2.below hSW.bel) HX.out.2).mono ?_
                rintro e w9 ⟨rfl, B9⟩
                exact hK _ _ ⟨rfl, hSW.below B9⟩
              | 8, _ =>
                intro aq W hSW hf
                have v55 : aq.tmps[55]? = some (.int .i64 (cnt y.segs)) := hf.val 3 55 (by kernel_rfl) rfl
                clear hf
                refine wpOp_flow rfl (by rfl) (fun Kq hK => ?_)
                go_simp
                exact hK _ _ ⟨rfl, hSW⟩
              | 9, _ =>
                intro aq W hSW hf
                have v59 : aq.tmps[59]? = some (.int .i64 (cnt x.segs)) := hf.val 7 59 (by kernel_rfl) rfl
                clear hf
                refine wpOp_flow rfl (by rfl) (fun Kq hK => ?_)
                go_simp
                exact hK _ _ ⟨rfl, hSW⟩
              | kq + 10, hk => exact absurd hk (by first | omega | (intro h; simp at h; omega))
            · simp only [puts, Act.put, List.setIfInBounds_toArray, List.set_cons_zero, List.set_cons_succ]
              have hB6 := hidp hSW.bel
              clear hB6
              obtain ⟨w7, rfl⟩ : ∃ w7, w7 = W := ⟨_, rfl⟩
              have h3 := hidp hSW
              have c5y := cellOf hSW.s.blkY 5 (v := .int .i64 y.origin) rfl
              have c5x := cellOf hSW.s.blkX 5 (v := .int .i64 x.origin) rfl
              have c2y := cellOf hSW.s.blkY 2 (v := .int .u32 y.near) rfl
              have c2x := cellOf hSW.s.blkX 2 (v := .int .u32 x.near) rfl
              have l6 : ¬ cnt y.segs < cnt x.segs := by have := HLY.out.n hpe; omega
              have hq0 := HLY.out.o hpe
              have hq1 := HLY.out.m hpe
              clear hSW
              generalize cnt y.segs = cy at *
              generalize cnt x.segs = cn at *
              by_cases hc : cy = cn
              · subst hc
                have l7 : ¬ y.origin < x.origin := by have := hq0 rfl; omega
                have HQ1 := hidp (hq1 rfl)
                clear l6 hq0 hq1
                go_wp2
                by_cases ho : y.origin = x.origin
                · have l9 : (y.origin == x.origin) = true := by simpa using ho
                  by_cases hn' : y.near = x.near
                  · have l10 : (y.near == x.near) = true := by simpa using hn'
                    have HMM := hidp (show ¬ y.md < x.md by have := HQ1.out ho hn'; omega)
                    have HEO := hidp l9
                    have HEN := hidp l10
                    clear l9 l10 ho hn' c5y c5x c2y c2x l7
                    have hd6 := h3.out.drew
                    refine wp_region_flow2 (fun iqv => ([(.int .i64 cy : Value), (.int .i64 cy : Value), (.bool true : Value), (.bool true : Value), (.pointer (some ⟨bY, 5, none⟩) : Value), (.pointer (some ⟨bY, 5, none⟩) : Value), (.int .i64 y.origin : Value), (.pointer (some ⟨w2.heap.size, 5, none⟩) : Value), (.pointer (some ⟨w2.heap.size, 5, none⟩) : Value), (.int .i64 x.origin : Value), (.bool true : Value), (.bool true : Value), (.bool true : Value), (.pointer (some ⟨bY, 2, none⟩) : Value), (.int .u32 y.near : Value), (.pointer (some ⟨w2.heap.size, 2, none⟩) : Value), (.int .u32 x.near : Value), (.bool true : Value), (.bool true : Value), (.bool true : Value), (y.val : Value), (.int .i64 y.md : Value), (x.val : Value), (.int .i64 x.md : Value), (.bool (decide (y.md < x.md)) : Value), (.bool (decide (y.md < x.md)) : Value)] : List Value).getD iqv undef) [(some 77, .int .i64 cy), (some 78, .int .i64 cy), (some 79, .bool true), (some 80, .bool true), (some 81, .pointer (some ⟨bY, 5, none⟩)), (some 82, .pointer (some ⟨bY, 5, none⟩)), (some 83, .int .i64 y.origin), (some 84, .pointer (some ⟨w2.heap.size, 5, none⟩)), (some 85, .pointer (some ⟨w2.heap.size, 5, none⟩)), (some 86, .int .i64 x.origin), (some 87, .bool true), (some 88, .bool true), (some 89, .bool true), (some 90, .pointer (some ⟨bY, 2, none⟩)), (some 91, .int .u32 y.near), (some 92, .pointer (some ⟨w2.heap.size, 2, none⟩)), (some 93, .int .u32 x.near), (some 94, .bool true), (some 95, .bool true), (some 96, .bool true), (some 97, y.val), (some 98, .int .i64 y.md), (some 99, x.val), (some 100, .int .i64 x.md), (some 101, .bool (decide (y.md < x.md))), (some 102, .bool (decide (y.md < x.md)))] (fun W : World => SXX w2.heap.size bY x y w w5 W) (by kernel_rfl) (by kernel_rfl) hd6 (fun iq hiq => ?_) (by kernel_rfl) (fun W hSW => ?_)
                    · match iq, hiq with
                      | 0, _ =>
                        intro aq W hSW hf
                        have v7 : aq.tmps[7]? = some (.int .i64 cy) := (hf.at_base 7 (by kernel_rfl)).trans rfl
                        clear hf
                        refine wpOp_flow rfl (by rfl) (fun Kq hK => ?_)
                        go_simp
                        exact hK _ _ ⟨rfl, hSW⟩
                      | 1, _ =>
                        intro aq W hSW hf
                        have v8 : aq.tmps[8]? = some (.int .i64 cy) := (hf.at_base 8 (by kernel_rfl)).trans rfl
                        clear hf
                        refine wpOp_flow rfl (by rfl) (fun Kq hK => ?_)
                        go_simp
                        exact hK _ _ ⟨rfl, hSW⟩
                      | 2, _ =>
                        intro aq W hSW hf
                        have v77 : aq.tmps[77]? = some (.int .i64 cy) := hf.val 0 77 (by kernel_rfl) rfl
                        have v78 : aq.tmps[78]? = some (.int .i64 cy) := hf.val 1 78 (by kernel_rfl) rfl
                        clear hf
                        refine wpOp_flow rfl (by rfl) (fun Kq hK => ?_)
                        go_simp
                        exact hK _ _ ⟨rfl, hSW⟩
                      | 3, _ =>
                        intro aq W hSW hf
                        have v79 : aq.tmps[79]? = some (.bool true) := hf.val 2 79 (by kernel_rfl) rfl
                        clear hf
                        refine wpOp_flow rfl (by rfl) (fun Kq hK => ?_)
                        go_simp
                        exact hK _ _ ⟨rfl, hSW⟩
                      | 4, _ =>
                        intro aq W hSW hf
                        have v6 : aq.tmps[6]? = some (.pointer (some ⟨bY, 0, none⟩)) := (hf.at_base 6 (by kernel_rfl)).trans rfl
                        have v80 : aq.tmps[80]? = some (.bool true) := hf.val 3 80 (by kernel_rfl) rfl
                        clear hf
                        refine wpOp_flow rfl (wanted_of rfl rfl v80) (fun Kq hK => ?_)
                        go_simp
                        exact hK _ _ ⟨rfl, hSW⟩
                      | 5, _ =>
                        intro aq W hSW hf
                        have v80 : aq.tmps[80]? = some (.bool true) := hf.val 3 80 (by kernel_rfl) rfl
                        have v81 : aq.tmps[81]? = some (.pointer (some ⟨bY, 5, none⟩)) := hf.val 4 81 (by kernel_rfl) rfl
                        clear hf
                        refine wpOp_flow rfl (wanted_of rfl rfl v80) (fun Kq hK => ?_)
                        go_simp
                        exact hK _ _ ⟨rfl, hSW⟩
                      | 6, _ =>
                        intro aq W hSW hf
                        have v80 : aq.tmps[80]? = some (.bool true) := hf.val 3 80 (by kernel_rfl) rfl
                        have v82 : aq.tmps[82]? = some (.pointer (some ⟨bY, 5, none⟩)) := hf.val 5 82 (by kernel_rfl) rfl
                        clear hf
                        refine wpOp_flow rfl (wanted_of rfl rfl v80) (fun Kq hK => ?_)
                        have ck := cellOf hSW.s.blkY 5 (v := .int .i64 y.origin) rfl
                        go_simp
                        exact hK _ _ ⟨rfl, hSW⟩
                      | 7, _ =>
                        intro aq W hSW hf
                        have v4 : aq.tmps[4]? = some (.pointer (some ⟨w2.heap.size, 0, none⟩)) := (hf.at_base 4 (by kernel_rfl)).trans rfl
                        have v80 : aq.tmps[80]? = some (.bool true) := hf.val 3 80 (by kernel_rfl) rfl
                        clear hf
                        refine wpOp_flow rfl (wanted_of rfl rfl v80) (fun Kq hK => ?_)
                        go_simp
                        exact hK _ _ ⟨rfl, hSW⟩
                      | 8, _ =>
                        intro aq W hSW hf
                        have v80 : aq.tmps[80]? = some (.bool true) := hf.val 3 80 (by kernel_rfl) rfl
                        have v84 : aq.tmps[84]? = some (.pointer (some ⟨w2.heap.size, 5, none⟩)) := hf.val 7 84 (by kernel_rfl) rfl
                        clear hf
                        refine wpOp_flow rfl (wanted_of rfl rfl v80) (fun Kq hK => ?_)
                        go_simp
                        exact hK _ _ ⟨rfl, hSW⟩
                      | 9, _ =>
                        intro aq W hSW hf
                        have v80 : aq.tmps[80]? = some (.bool true) := hf.val 3 80 (by kernel_rfl) rfl
                        have v85 : aq.tmps[85]? = some (.pointer (some ⟨w2.heap.size, 5, none⟩)) := hf.val 8 85 (by kernel_rfl) rfl
                        clear hf
                        refine wpOp_flow rfl (wanted_of rfl rfl v80) (fun Kq hK => ?_)
                        have ck := cellOf hSW.s.blkX 5 (v := .int .i64 x.origin) rfl
                        go_simp
                        exact hK _ _ ⟨rfl, hSW⟩
                      | 10, _ =>
                        intro aq W hSW hf
                        have v80 : aq.tmps[80]? = some (.bool true) := hf.val 3 80 (by kernel_rfl) rfl
                        have v83 : aq.tmps[83]? = some (.int .i64 y.origin) := hf.val 6 83 (by kernel_rfl) rfl
                        have v86 : aq.tmps[86]? = some (.int .i64 x.origin) := hf.val 9 86 (by kernel_rfl) rfl
                        clear hf
                        refine wpOp_flow rfl (wanted_of rfl rfl v80) (fun Kq hK => ?_)
                        have l9 := HEO.out
                        go_simp
                        exact hK _ _ ⟨rfl, hSW⟩
                      | 11, _ =>
                        intro aq W hSW hf
                        have v80 : aq.tmps[80]? = some (.bool true) := hf.val 3 80 (by kernel_rfl) rfl
                        have v87 : aq.tmps[87]? = some (.bool true) := hf.val 10 87 (by kernel_rfl) rfl
                        clear hf
                        refine wpOp_flow rfl (by rfl) (fun Kq hK => ?_)
                        go_simp
                        exact hK _ _ ⟨rfl, hSW⟩
                      | 12, _ =>
                        intro aq W hSW hf
                        have v88 : aq.tmps[88]? = some (.bool true) := hf.val 11 88 (by kernel_rfl) rfl
                        clear hf
                        refine wpOp_flow rfl (by rfl) (fun Kq hK => ?_)
                        go_simp
                        exact hK _ _ ⟨rfl, hSW⟩
                      | 13, _ =>
                        intro aq W hSW hf
                        have v6 : aq.tmps[6]? = some (.pointer (some ⟨bY, 0, none⟩)) := (hf.at_base 6 (by kernel_rfl)).trans rfl
                        have v89 : aq.tmps[89]? = some (.bool true) := hf.val 12 89 (by kernel_rfl) rfl
                        clear hf
                        refine wpOp_flow rfl (wanted_of rfl rfl v89) (fun Kq hK => ?_)
                        go_simp
                        exact hK _ _ ⟨rfl, hSW⟩
                      | 14, _ =>
                        intro aq W hSW hf
                        have v89 : aq.tmps[89]? = some (.bool true) := hf.val 12 89 (by kernel_rfl) rfl
                        have v90 : aq.tmps[90]? = some (.pointer (some ⟨bY, 2, none⟩)) := hf.val 13 90 (by kernel_rfl) rfl
                        clear hf
                        refine wpOp_flow rfl (wanted_of rfl rfl v89) (fun Kq hK => ?_)
                        have ck := cellOf hSW.s.blkY 2 (v := .int .u32 y.near) rfl
                        go_simp
                        exact hK _ _ ⟨rfl, hSW⟩
                      | 15, _ =>
                        intro aq W hSW hf
                        have v4 : aq.tmps[4]? = some (.pointer (some ⟨w2.heap.size, 0, none⟩)) := (hf.at_base 4 (by kernel_rfl)).trans rfl
                        have v89 : aq.tmps[89]? = some (.bool true) := hf.val 12 89 (by kernel_rfl) rfl
                        clear hf
                        refine wpOp_flow rfl (wanted_of rfl rfl v89) (fun Kq hK => ?_)
                        go_simp
                        exact hK _ _ ⟨rfl, hSW⟩
                      | 16, _ =>
                        intro aq W hSW hf
                        have v89 : aq.tmps[89]? = some (.bool true) := hf.val 12 89 (by kernel_rfl) rfl
                        have v92 : aq.tmps[92]? = some (.pointer (some ⟨w2.heap.size, 2, none⟩)) := hf.val 15 92 (by kernel_rfl) rfl
                        clear hf
                        refine wpOp_flow rfl (wanted_of rfl rfl v89) (fun Kq hK => ?_)
                        have ck := cellOf hSW.s.blkX 2 (v := .int .u32 x.near) rfl
                        go_simp
                        exact hK _ _ ⟨rfl, hSW⟩
                      | 17, _ =>
                        intro aq W hSW hf
                        have v89 : aq.tmps[89]? = some (.bool true) := hf.val 12 89 (by kernel_rfl) rfl
                        have v91 : aq.tmps[91]? = some (.int .u32 y.near) := hf.val 14 91 (by kernel_rfl) rfl
                        have v93 : aq.tmps[93]? = some (.int .u32 x.near) := hf.val 16 93 (by kernel_rfl) rfl
                        clear hf
                        refine wpOp_flow rfl (wanted_of rfl rfl v89) (fun Kq hK => ?_)
                        have l9 := HEN.out
                        go_simp
                        exact hK _ _ ⟨rfl, hSW⟩
                      | 18, _ =>
                        intro aq W hSW hf
                        have v89 : aq.tmps[89]? = some (.bool true) := hf.val 12 89 (by kernel_rfl) rfl
                        have v94 : aq.tmps[94]? = some (.bool true) := hf.val 17 94 (by kernel_rfl) rfl
                        clear hf
                        refine wpOp_flow rfl (by rfl) (fun Kq hK => ?_)
                        go_simp
                        exact hK _ _ ⟨rfl, hSW⟩
                      | 19, _ =>
                        intro aq W hSW hf
                        have v95 : aq.tmps[95]? = some (.bool true) := hf.val 18 95 (by kernel_rfl) rfl
                        clear hf
                        refine wpOp_flow rfl (by rfl) (fun Kq hK => ?_)
                        go_simp
                        exact hK _ _ ⟨rfl, hSW⟩
                      | 20, _ =>
                        intro aq W hSW hf
                        have v6 : aq.tmps[6]? = some (.pointer (some ⟨bY, 0, none⟩)) := (hf.at_base 6 (by kernel_rfl)).trans rfl
                        have v96 : aq.tmps[96]? = some (.bool true) := hf.val 19 96 (by kernel_rfl) rfl
                        clear hf
                        refine wpOp_flow rfl (wanted_of rfl rfl v96) (fun Kq hK => ?_)
                        refine wp_load_mid 34 (.tmp 6) rfl bY 0 (eval_of v6) y.cells _ hSW.s.rY Try.underlying34 rfl (by rw [Cnd.len]; exact Try.info34) (hK _ _ ⟨rfl, hSW⟩)
                      | 21, _ =>
                        intro aq W hSW hf
                        have v96 : aq.tmps[96]? = some (.bool true) := hf.val 19 96 (by kernel_rfl) rfl
                        have v97 : aq.tmps[97]? = some (y.val) := hf.val 20 97 (by kernel_rfl) rfl
                        clear hf
                        refine wpOp_flow rfl (wanted_of rfl rfl v96) (fun Kq hK => ?_)
                        go_simp
                        refine (med_any y _).mono ?_
                        rintro e w9 ⟨rfl, B9⟩
                        exact hK _ _ ⟨rfl, hSW.below B9⟩
                      | 22, _ =>
                        intro aq W hSW hf
                        have v4 : aq.tmps[4]? = some (.pointer (some ⟨w2.heap.size, 0, none⟩)) := (hf.at_base 4 (by kernel_rfl)).trans rfl
                        have v96 : aq.tmps[96]? = some (.bool true) := hf.val 19 96 (by kernel_rfl) rfl
                        clear hf
                        refine wpOp_flow rfl (wanted_of rfl rfl v96) (fun Kq hK => ?_)
                        refine wp_load_mid 34 (.tmp 4) rfl w2.heap.size 0 (eval_of v4) x.cells _ hSW.s.rX Try.underlying34 rfl (by rw [Cnd.len]; exact Try.info34) (hK _ _ ⟨rfl, hSW⟩)
                      | 23, _ =>
                        intro aq W hSW hf
                        have v96 : aq.tmps[96]? = some (.bool true) := hf.val 19 96 (by kernel_rfl) rfl
                        have v99 : aq.tmps[99]? = some (x.val) := hf.val 22 99 (by kernel_rfl) rfl
                        clear hf
                        refine wpOp_flow rfl (wanted_of rfl rfl v96) (fun Kq hK => ?_)
                        go_simp
                        refine (med_any x _).mono ?_
                        rintro e w9 ⟨rfl, B9⟩
                        exact hK _ _ ⟨rfl, hSW.below B9⟩
                      | 24, _ =>
                        intro aq W hSW hf
                        have v96 : aq.tmps[96]? = some (.bool true) := hf.val 19 96 (by kernel_rfl) rfl
                        have v98 : aq.tmps[98]? = some (.int .i64 y.md) := hf.val 21 98 (by kernel_rfl) rfl
                        have v100 : aq.tmps[100]? = some (.int .i64 x.md) := hf.val 23 100 (by kernel_rfl) rfl
                        clear hf
                        refine wpOp_flow rfl (wanted_of rfl rfl v96) (fun Kq hK => ?_)
                        go_simp
                        exact hK _ _ ⟨rfl, hSW⟩
                      | 25, _ =>
                        intro aq W hSW hf
                        have v96 : aq.tmps[96]? = some (.bool true) := hf.val 19 96 (by kernel_rfl) rfl
                        have v101 : aq.tmps[101]? = some (.bool (decide (y.md < x.md))) := hf.val 24 101 (by kernel_rfl) rfl
                        clear hf
                        refine wpOp_flow rfl (by rfl) (fun Kq hK => ?_)
                        go_simp
                        exact hK _ _ ⟨rfl, hSW⟩
                      | kq + 26, hk => exact absurd hk (by first | omega | (intro h; simp at h; omega))
                    · simp only [puts, Act.put, List.setIfInBounds_toArray, List.set_cons_zero, List.set_cons_succ]
                      have l12 := HMM.out
                      have h4 := hidp hSW
                      clear hSW
                      go_wp2
                      go_roundw
                      case rel => exact ⟨j + 1, by omega, by go_num, h4.out.s.one, HB5.out.trans (h4.out.bel.mono HB5.out.size)⟩
                      case measure => simp [intOf]; omega
                  · have l10 : (y.near == x.near) = false := by simpa using hn'
                    clear hn'
                    go_quiet (fail)
                    go_wp2
                    go_roundw
                    case rel => exact ⟨j + 1, by omega, by go_num, (h3.out.drewN _).s.one, HB5.out.trans ((h3.out.drewN _).bel.mono HB5.out.size)⟩
                    case measure => simp [intOf]; omega
                · have l9 : (y.origin == x.origin) = false := by simpa using ho
                  clear ho
                  go_quiet (fail)
                  go_wp2
                  go_roundw
                  case rel => exact ⟨j + 1, by omega, by go_num, (h3.out.drewN _).s.one, HB5.out.trans ((h3.out.drewN _).bel.mono HB5.out.size)⟩
                  case measure => simp [intOf]; omega
              · have l7 : (cy == cn) = false := by simpa using hc
                clear hc hq0 hq1
                go_wp2
                go_quiet (fail)
                go_wp2
                go_roundw
                case rel => exact ⟨j + 1, by omega, by go_num, (h3.out.drewN _).s.one, HB5.out.trans ((h3.out.drewN _).bel.mono HB5.out.size)⟩
                case measure => simp [intOf]; omega
          · have l6 : (y.pre != x.pre) = true := by simpa using hpe
            obtain ⟨w6, rfl⟩ : ∃ w6, w6 = W := ⟨_, rfl⟩
            have hd6 := hSW.drew
            clear hSW
            go_wp2
            refine wp_region_flow2 (fun iqv => ([(y.val : Value), (.int .i64 y.pre : Value), (x.val : Value), (.int .i64 x.pre : Value), (.bool (decide (y.pre > x.pre)) : Value)] : List Value).getD iqv undef) [(some 47, y.val), (some 48, .int .i64 y.pre), (some 49, x.val), (some 50, .int .i64 x.pre), (some 51, .bool (decide (y.pre > x.pre)))] (fun W : World => SXX w2.heap.size bY x y w w5 W) (by kernel_rfl) (by kernel_rfl) hd6 (fun iq hiq => ?_) (by kernel_rfl) (fun W hSW => ?_)
            · match iq, hiq with
              | 0, _ =>
                intro aq W hSW hf
                have v6 : aq.tmps[6]? = some (.pointer (some ⟨bY, 0, none⟩)) := (hf.at_base 6 (by kernel_rfl)).trans rfl
                clear hf
                refine wpOp_flow rfl (by rfl) (fun Kq hK => ?_)
                refine wp_load_mid 34 (.tmp 6) rfl bY 0 (eval_of v6) y.cells _ hSW.s.rY Try.underlying34 rfl (by rw [Cnd.len]; exact Try.info34) (hK _ _ ⟨rfl, hSW⟩)
              | 1, _ =>
                intro aq W hSW hf
                have v47 : aq.tmps[47]? = some (y.val) := hf.val 0 47 (by kernel_rfl) rfl
                clear hf
                refine wpOp_flow rfl (by rfl) (fun Kq hK => ?_)
                go_simp
                refine (pref_any y _).mono ?_
                rintro e w9 ⟨rfl, B9⟩
                exact hK _ _ ⟨rfl, hSW.below B9⟩
              | 2, _ =>
                intro aq W hSW hf
                have v4 : aq.tmps[4]? = some (.pointer (some ⟨w2.heap.size, 0, none⟩)) := (hf.at_base 4 (by kernel_rfl)).trans rfl
                clear hf
                refine wpOp_flow rfl (by rfl) (fun Kq hK => ?_)
                refine wp_load_mid 34 (.tmp 4) rfl w2.heap.size 0 (eval_of v4) x.cells _ hSW.s.rX Try.underlying34 rfl (by rw [Cnd.len]; exact Try.info34) (hK _ _ ⟨rfl, hSW⟩)
              | 3, _ =>
                intro aq W hSW hf
                have v49 : aq.tmps[49]? = some (x.val) := hf.val 2 49 (by kernel_rfl) rfl
                clear hf
                refine wpOp_flow rfl (by rfl) (fun Kq hK => ?_)
                go_simp
                refine (pref_any x _).mono ?_
                rintro e w9 ⟨rfl, B9⟩
                exact hK _ _ ⟨rfl, hSW.below B9⟩
              | 4, _ =>
                intro aq W hSW hf
                have v48 : aq.tmps[48]? = some (.int .i64 y.pre) := hf.val 1 48 (by kernel_rfl) rfl
                have v50 : aq.tmps[50]? = some (.int .i64 x.pre) := hf.val 3 50 (by kernel_rfl) rfl
                clear hf
                refine wpOp_flow rfl (by rfl) (fun Kq hK => ?_)
                go_simp
                exact hK _ _ ⟨rfl, hSW⟩
              | kq + 5, hk => exact absurd hk (by first | omega | (intro h; simp at h; omega))
            · simp only [puts, Act.put, List.setIfInBounds_toArray, List.set_cons_zero, List.set_cons_succ]
              have l7 : ¬ y.pre > x.pre := by have := HLY.out.p; omega
              have h2 := hidp hSW
              clear hSW
              go_wp2
              go_roundw
              case rel => exact ⟨j + 1, by omega, by go_num, h2.out.s.one, HB5.out.trans (h2.out.bel.mono HB5.out.size)⟩
              case measure => simp [intOf]; omega
      · have l5 : ¬ (j : Int) < (n : Int) := by omega
        have HS := hidp hS
        clear hS hB
        go_wp2_with (first
          | (go_at_call 9; refine (awake_any _).mono ?_; rintro e w5 ⟨rfl, B5⟩
             have H5 := hidp (HS.out.bel.trans (B5.mono HS.out.bel.size))
             clear B5))
        go_ret
        exact ⟨rfl, H5.out⟩
end Go.Proofs.Ythfchjcbkmabpaa
