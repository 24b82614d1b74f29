/- CursorPlays answers true: what a table tells of any acts, and what is there behind each, is the document's; of acts that are not few only the example is asked. -/
import Derived.Test.YtkmhdffkganhaaaLPC
import Derived.Test.YtkmhdffkganhaaaFlowA
import Derived.Deep.RegionHeld
namespace Go.Proofs.Ytkmhdffkganhaaa
open Go.RowKit

theorem BoxA.cell {w : World} {q : Nat} {a : ActC} (h : BoxA w q a) (j : Nat) {v : Value} (hv : a.cells.toArray[j]? = some v) : w.cell? ⟨q, j, none⟩ = some v := cellOf h j hv
theorem BoxA.cur {w : World} {q : Nat} {a : ActC} (h : BoxA w q a) : w.rangeAt q 1 a.c.cells := fun j v hv => by
  rw [Nat.add_comm]
  refine h.cell (j + 1) ?_
  have hj : j < a.c.cells.length := (List.getElem?_eq_some_iff.1 hv).1
  simp only [List.getElem?_toArray]
  show (a.c.cells ++ _)[j]? = some v
  rw [List.getElem?_append_left hj]
  exact hv
/-- a block that is made, or filled -/
def boxC (x : Cur) : Bool → Array Value
  | true => x.cells.toArray
  | false => zarr34
theorem capM_le (m : Int) : capM m ≤ 8 ∧ 0 ≤ capM m := by 
  unfold capM
  split
  · omega
  · split <;> omega
set_option maxRecDepth 100000 in
set_option maxHeartbeats 8000000 in
theorem plays_any (most life : Int) (a0 : Option Addr) (len cap : Nat) (A : Nat → ActC) (X : Nat → List Int) (w : World) (hA : ActsU w a0 len A X) :
    Calls Try.prog 5 #[.int .i64 most, .int .i64 life, .slice a0 len cap] w fun e w' => e = .returned (.bool true) ∧ Below w.heap.size w w' := by
  have HA := hidp hA
  clear hA
  go_enter Try.func5, Try.ntmps5
  go_wp2_with fail
  refine (few_any a0 len cap A _ w HA.out.acts).mono ?_
  rintro e w1 ⟨⟨few, rfl, hfew⟩, hB1⟩
  cases few
  · go_wp2_with (first | (go_at_call 12; refine (awake_any _).mono ?_; rintro e w6 ⟨rfl, B6⟩))
    go_ret
    exact ⟨rfl, hB1.trans (B6.mono hB1.size)⟩
  obtain ⟨h60, hcl⟩ := hfew rfl
  have HCL := hidp hcl
  clear hfew hcl
  go_wp2_with fail
  refine (new_any most life w1).mono ?_
  rintro e w2 ⟨b, rfl, T2, hB2⟩
  have HT2 := hidp (And.intro T2 hB2)
  clear T2 hB2
  go_wp2_with fail
  refine (doc_new most life w2).mono ?_
  rintro e w3 ⟨d, rfl, D3, hB3⟩
  have R0 : Hid (PR w b d (capM most) (capL life) 0 w3) := by
    obtain ⟨T2, hB2⟩ := HT2.out
    have hs := hB1.size
    have hs2 := hB2.size
    refine ⟨fun _ => none, fun _ => 0, [], 0, ⟨⟨_, (TabIs.below ⟨T2.blk, ownsRow_weaken T2.own hs, by have := T2.hb; omega⟩ hB3 (Nat.le_refl _))⟩, ⟨none, 0, D3.blk, D3.row, D3.typ, by have := D3.hb; omega⟩, fun c hc => absurd hc (by simp), (hB1.trans (hB2.mono hs)).trans (hB3.mono (by omega))⟩, ⟨by have := (capM_le most).2; simpa using this, List.Pairwise.nil, by simp, by simp⟩, by omega, by omega⟩
  have hn := capM_le most
  generalize capM most = n at R0 hn
  generalize capL life = lf at R0
  clear HT2 D3 hB3 hB1
  go_wp2
  go_loopw [9] (fun i wr => ∃ (k : Nat), k ≤ len ∧ i = .int .i64 k ∧ Hid (PR w b d n lf k wr)) (fun i _ => len - (intOf i).toNat)
  case atStart => exact ⟨0, by omega, rfl, R0⟩
  case round =>
    obtain ⟨k, hk, rfl, HR⟩ := hrel
    clear R0
    obtain ⟨w4, rfl⟩ : ∃ w4, w4 = wr := ⟨_, rfl⟩
    by_cases hlt : k < len
    · obtain ⟨g, o, rfl, hc⟩ := HA.out (by omega)
      obtain ⟨hr, hS, hca, hkd⟩ := hc k hlt
      have hcl := HCL.out k hlt
      have l1 : (k : Int) < (len : Int) := by omega
      have hBw : Below w.heap.size w w4 := by obtain ⟨_, _, _, _, g, _⟩ := HR.out; exact g.below
      have HJ : Hid (w4.rangeAt g (o + k * 21) (A k).cells) := fun i v hv => below_cell hBw (Nat.le_refl _) _ _ (hr i v hv)
      have HS := hidp hS
      have hcb : ∀ ad, (A k).c.ca = some ad → 0 < (A k).c.cl → ad.block < w.heap.size := fun ad had hp => by
        obtain ⟨ad', e, h2⟩ := HS.out.2.2 hp
        rw [had] at e
        cases e
        obtain ⟨u, hu⟩ : ∃ u, (U32s (X k))[0]? = some u := ⟨_, List.getElem?_eq_getElem (by rw [HS.out.1]; exact hp)⟩
        have := World.block_lt_of_cell? w _ (h2 0 u hu)
        rwa [add_block] at this
      have HCB := hidp (And.intro hca hcb)
      clear hc hr hS hca hcb hBw
      generalize A k = act at *
      generalize X k = ys at *
      have hact : Hid ((Try.prog.info? 44).map (·.size) = some act.cells.length) := Try.info44
      go_upto_block 2 with (first
        | (with_reducible refine wpList_load_mid rfl 44 (.tmp 45) rfl g (o + k * 21) rfl act.cells _ HJ.out Try.underlying44 rfl hact.out ?_)
        | (with_reducible refine wpList_store_row rfl 44 (.tmp 10) (.tmp 46) rfl w4.heap.size act.cells.toArray rfl rfl 44 _ (heap_alloc_new w4 _) (by rw [List.size_toArray, ActC.len]; exact Try.info44) rfl act.all_one ?_
           rw [World.setRow_alloc_new]
           have hK5 : BoxA (w4.alloc (.cells act.cells.toArray 44)) w4.heap.size act := heap_alloc_new w4 _
           have hc0 := hK5.cell 0 (v := .int .u8 act.kind) rfl
           have hP5 := HR.out.later ((Below.refl w4.heap.size w4).alloc (Nat.le_refl _) (.cells act.cells.toArray 44))
           generalize w4.alloc (.cells act.cells.toArray 44) = w5 at *
           have K5 := hidp hK5
           have P5 := hidp hP5
           clear hK5 hP5))
      go_cut [11, 12, 13, 14, 15, 16, 17, 18, 19, 20, 21, 22, 23, 49, 55, 57, 64, 80, 82, 91, 109, 128, 130, 139, 157] (fun ok _ _ _ _ _ _ _ _ _ _ _ _ _ _ _ _ _ _ _ _ _ _ _ _ wx => ok = .bool true ∧ Hid (PR w b d n lf (k + 1) wx))
      case first =>
        obtain ⟨Af, Cf, L, next, gG, tT, hx0, hxk⟩ := P5.out
        obtain ⟨v, hTt⟩ := gG.p
        obtain ⟨aq, cq, hDd⟩ := gG.q
        have hL8 : L.length ≤ 8 := by have := tT.len; omega
        have hages : ∀ c ∈ L, 0 ≤ c.age ∧ c.age ≤ 1000000 := fun c hc => by have := tT.ages c hc; omega
        have HG := hidp gG
        have HI := hidp tT
        have HT := hidp hTt
        have HD := hidp hDd
        have HAG := hidp hages
        have z17 := K5.out.cell 17 (v := .int .i64 act.owner) rfl
        have z18 := K5.out.cell 18 (v := .int .i64 act.id) rfl
        have hml : (L.map (dc Af Cf)).length ≤ 8 := by simpa using hL8
        have hkr : (0 : Int) ≤ k := by omega
        clear gG tT hTt hDd hages hc0
        rcases (by omega : act.kind % 6 = 0 ∨ act.kind % 6 = 1 ∨ act.kind % 6 = 2 ∨ act.kind % 6 = 3 ∨ act.kind % 6 = 4 ∨ act.kind % 6 = 5) with h6 | h6 | h6 | h6 | h6 | h6
        · as_aux_lemma =>
            clear z17 z18
            have hcb : ∀ ad, act.c.ca = some ad → 0 < act.c.cl → ad.block ≠ b := fun ad had hp e => by
              have := HCB.out.2 ad had hp
              have := HT.out.hb
              omega
            have HCB2 := hidp hcb
            have hmm : L.map (dc (fun i => if i = next + 1 then act.c.ca else Af i) (fun i => if i = next + 1 then act.c.cc else Cf i)) = L.map (dc Af Cf) := map_dc_congr fun c hc => by
              have := HI.out.ids c hc
              rw [if_neg (by omega), if_neg (by omega)]
              exact ⟨rfl, rfl⟩
            have HMM := hidp hmm
            clear hcb hmm
            go_wp2_with (first
              | (with_reducible refine wpList_load_mid rfl 34 (.tmp 59) rfl w4.heap.size 1 rfl act.c.cells _ K5.out.cur Try.underlying34 rfl (by rw [Cur.len]; exact Try.info34) ?_)
              | (go_at_call 8; refine (openT_any w.heap.size b v L n lf next act.c (U32s ys) w5 HT.out (by omega) (by omega) (HS.out.below HG.out.below) (by omega) HCB.out.1 HCB2.out).mono ?_
                 rintro e w6 ⟨a', cc', o6, rfl, hres, hS6, F6⟩
                 have HO := hidp (open_prog HG.out HI.out HT.out HS.out (by omega) hres hS6 F6)
                 have K6 := hidp (show BoxA w6 w4.heap.size act from box_prog K5.out ⟨by decide, by decide⟩ HT.out F6)
                 have D6 := hidp (HD.out.frameV HT.out F6)
                 clear hres hS6 F6)
              | (with_reducible refine wpList_load_mid rfl 34 (.tmp 66) rfl w4.heap.size 1 rfl act.c.cells _ K6.out.cur Try.underlying34 rfl (by rw [Cur.len]; exact Try.info34) ?_)
              | (go_at_call 19; refine (told_any act.c w6).mono ?_; rintro e w7 ⟨rfl, B7⟩
                 have HO7 := hidp (HO.out.later B7)
                 have D7 := hidp (D6.out.below B7)
                 clear B7)
              | (go_at_call 18; refine (doc_open w.heap.size d aq cq (L.map (dc Af Cf)) n lf next act.c w7 D7.out (by omega) (by omega)).mono ?_
                 rintro e w8 ⟨⟨o8, rfl, hOp⟩, F8⟩
                 have H8 := hidp (open_both rfl HMM.out HO7.out HI.out hkr hx0 hxk D7.out hOp F8)
                 clear hOp F8)
              | (go_at_call 20; refine (same_of H8.out.2).mono ?_; rintro e w9 ⟨rfl, B9⟩
                 have H9 := hidp (H8.out.1.later B9)
                 clear B9))
            go_meet
            exact ⟨rfl, H9⟩
        · as_aux_lemma =>
            obtain ⟨x, y, r, hx, hy, htw⟩ := got_pre HG.out act.owner act.id
            have HX := hidp hx
            have HY := hidp hy
            have HTW := hidp htw
            clear hx hy htw
            go_upto_region 16 with (first
              | (go_at_call 11; refine (get_any w.heap.size b v L n lf next act.owner act.id w5 HT.out (by omega)).mono ?_
                 rintro e w6 ⟨hr, B6⟩
                 obtain rfl := HX.out e hr
                 have H6 := hidp B6
                 clear hr B6)
              | (with_reducible refine wpList_store_row rfl 34 (.tmp 16) (.tmp 89) rfl w6.heap.size x.cells.toArray rfl rfl 34 _ (heap_alloc_new w6 _) (by rw [List.size_toArray, Cur.len]; exact Try.info34) rfl (all_one x) ?_
                 rw [World.setRow_alloc_new]
                 have hk7 := heap_alloc_new w6 (.cells x.cells.toArray 34)
                 have hb7 : Below w5.heap.size w5 (w6.alloc (.cells x.cells.toArray 34)) := H6.out.alloc H6.out.size _
                 generalize w6.alloc (.cells x.cells.toArray 34) = w7 at *
                 have K7 := hidp hk7
                 have H7 := hidp hb7
                 clear hk7 hb7))
            have z17 := (K5.out.below H7.out).cell 17 (v := .int .i64 act.owner) rfl
            have z18 := (K5.out.below H7.out).cell 18 (v := .int .i64 act.id) rfl
            go_upto_region 17 with (first
              | (go_at_call 21; refine (doc_get w.heap.size d aq cq (L.map (dc Af Cf)) n lf next act.owner act.id w7 (HD.out.below H7.out) (by omega)).mono ?_
                 rintro e w8 ⟨hr, B8⟩
                 obtain rfl := HY.out e hr
                 have H8 := hidp (H7.out.trans (B8.mono H7.out.size))
                 have K8 := hidp (heap_below B8 K7.out (ltOf K7.out))
                 clear hr B8)
              | (with_reducible refine wpList_store_row rfl 53 (.tmp 18) (.tmp 98) rfl w8.heap.size y.cells.toArray rfl rfl 53 _ (heap_alloc_new w8 _) (by rw [List.size_toArray]; exact Try.info53c y) rfl (all_one y) ?_
                 rw [World.setRow_alloc_new]
                 have hk9 := heap_alloc_new w8 (.cells y.cells.toArray 53)
                 have hb8 : Below w8.heap.size w8 (w8.alloc (.cells y.cells.toArray 53)) := (Below.refl _ _).alloc (Nat.le_refl _) _
                 have hx9 := heap_below hb8 K8.out (ltOf K8.out)
                 have hb9 : Below w5.heap.size w5 (w8.alloc (.cells y.cells.toArray 53)) := H8.out.alloc H8.out.size _
                 generalize w8.alloc (.cells y.cells.toArray 53) = w9 at *
                 have K9 := hidp (And.intro hx9 hk9)
                 have H9 := hidp hb9
                 clear hk9 hb8 hx9 hb9))
            have q1 : ∀ W, Below w9.heap.size w9 W → W.rangeAt w6.heap.size 0 x.cells := fun W hW j v hv => cellOf (heap_below hW K9.out.1 (ltOf K9.out.1)) (0 + j) (by simpa using hv)
            have q2 : ∀ W, Below w9.heap.size w9 W → W.rangeAt w8.heap.size 0 y.cells := fun W hW j v hv => cellOf (heap_below hW K9.out.2 (ltOf K9.out.2)) (0 + j) (by simpa using hv)
            have qt : ∀ W, Below w9.heap.size w9 W → Twin W x y := fun W hW => (HTW.out.below H9.out).below hW
            have qf : ∀ W, Below w9.heap.size w9 W → PR w b d n lf (k + 1) W := fun W hW => by
              have h1 : PR w b d n lf k w9 := P5.out.later H9.out
              exact (h1.later hW).mono (by omega)
            have Q1 := hidp q1
            have Q2 := hidp q2
            have QT := hidp qt
            have QF := hidp qf
            have hd9 : Below w9.heap.size w9 w9.drew := (Below.refl _ _).drew
            clear q1 q2 qt qf z17 z18
            refine wp_region_flow2 (fun iqv => ([(.bool r : Value), (.bool r : Value), (.bool true : Value), (.bool true : Value), (x.val : Value), (x.val : Value), (y.val : Value), (.bool true : Value), (.bool true : Value), (.bool true : Value)] : List Value).getD iqv undef) [(some 100, .bool r), (some 101, .bool r), (some 102, .bool true), (some 103, .bool true), (some 104, x.val), (some 105, x.val), (some 106, y.val), (some 107, .bool true), (some 108, .bool true), (some 11, .bool true)] (fun W : World => Below w9.heap.size w9 W) (by kernel_rfl) (by kernel_rfl) hd9 (fun iq hiq => ?_) (by kernel_rfl) (fun W hSW => ?_)
            · match iq, hiq with
              | 0, _ =>
                intro aq W hSW hf
                have v17 : aq.tmps[17]? = some (.bool r) := (hf.at_base 17 (by kernel_rfl)).trans rfl
                clear hf
                refine wpOp_flow rfl (by rfl) (fun Kq hK => ?_)
                go_simp
                exact hK _ _ ⟨rfl, hSW⟩
              | 1, _ =>
                intro aq W hSW hf
                have v19 : aq.tmps[19]? = some (.bool r) := (hf.at_base 19 (by kernel_rfl)).trans rfl
                clear hf
                refine wpOp_flow rfl (by rfl) (fun Kq hK => ?_)
                go_simp
                exact hK _ _ ⟨rfl, hSW⟩
              | 2, _ =>
                intro aq W hSW hf
                have v100 : aq.tmps[100]? = some (.bool r) := hf.val 0 100 (by kernel_rfl) rfl
                have v101 : aq.tmps[101]? = some (.bool r) := hf.val 1 101 (by kernel_rfl) rfl
                clear hf
                refine wpOp_flow rfl (by rfl) (fun Kq hK => ?_)
                go_simp
                exact hK _ _ ⟨rfl, hSW⟩
              | 3, _ =>
                intro aq W hSW hf
                have v102 : aq.tmps[102]? = some (.bool true) := hf.val 2 102 (by kernel_rfl) rfl
                clear hf
                refine wpOp_flow rfl (by rfl) (fun Kq hK => ?_)
                go_simp
                exact hK _ _ ⟨rfl, hSW⟩
              | 4, _ =>
                intro aq W hSW hf
                have v16 : aq.tmps[16]? = some (.pointer (some ⟨w6.heap.size, 0, none⟩)) := (hf.at_base 16 (by kernel_rfl)).trans rfl
                have v103 : aq.tmps[103]? = some (.bool true) := hf.val 3 103 (by kernel_rfl) rfl
                clear hf
                refine wpOp_flow rfl (wanted_of rfl rfl v103) (fun Kq hK => ?_)
                refine wp_load_mid 34 (.tmp 16) rfl w6.heap.size 0 (eval_of v16) x.cells _ (Q1.out W hSW) Try.underlying34 rfl (by rw [Cur.len]; exact Try.info34) (hK _ _ ⟨rfl, hSW⟩)
              | 5, _ =>
                intro aq W hSW hf
                have v103 : aq.tmps[103]? = some (.bool true) := hf.val 3 103 (by kernel_rfl) rfl
                have v104 : aq.tmps[104]? = some (x.val) := hf.val 4 104 (by kernel_rfl) rfl
                clear hf
                refine wpOp_flow rfl (wanted_of rfl rfl v103) (fun Kq hK => ?_)
                go_simp
                refine (told_any x _).mono ?_
                rintro e w19 ⟨rfl, B19⟩
                exact hK _ _ ⟨rfl, hSW.trans (B19.mono hSW.size)⟩
              | 6, _ =>
                intro aq W hSW hf
                have v18 : aq.tmps[18]? = some (.pointer (some ⟨w8.heap.size, 0, none⟩)) := (hf.at_base 18 (by kernel_rfl)).trans rfl
                have v103 : aq.tmps[103]? = some (.bool true) := hf.val 3 103 (by kernel_rfl) rfl
                clear hf
                refine wpOp_flow rfl (wanted_of rfl rfl v103) (fun Kq hK => ?_)
                refine wp_load_mid 53 (.tmp 18) rfl w8.heap.size 0 (eval_of v18) y.cells _ (Q2.out W hSW) Try.underlying53 rfl (Try.info53c y) (hK _ _ ⟨rfl, hSW⟩)
              | 7, _ =>
                intro aq W hSW hf
                have v103 : aq.tmps[103]? = some (.bool true) := hf.val 3 103 (by kernel_rfl) rfl
                have v105 : aq.tmps[105]? = some (x.val) := hf.val 5 105 (by kernel_rfl) rfl
                have v106 : aq.tmps[106]? = some (y.val) := hf.val 6 106 (by kernel_rfl) rfl
                clear hf
                refine wpOp_flow rfl (wanted_of rfl rfl v103) (fun Kq hK => ?_)
                go_simp
                refine (csame_twin x y _ (QT.out W hSW)).mono ?_
                rintro e w19 ⟨rfl, B19⟩
                exact hK _ _ ⟨rfl, hSW.trans (B19.mono hSW.size)⟩
              | 8, _ =>
                intro aq W hSW hf
                have v103 : aq.tmps[103]? = some (.bool true) := hf.val 3 103 (by kernel_rfl) rfl
                have v107 : aq.tmps[107]? = some (.bool true) := hf.val 7 107 (by kernel_rfl) rfl
                clear hf
                refine wpOp_flow rfl (by rfl) (fun Kq hK => ?_)
                go_simp
                exact hK _ _ ⟨rfl, hSW⟩
              | 9, _ =>
                intro aq W hSW hf
                have v108 : aq.tmps[108]? = some (.bool true) := hf.val 8 108 (by kernel_rfl) rfl
                clear hf
                refine wpOp_flow rfl (by rfl) (fun Kq hK => ?_)
                go_simp
                exact hK _ _ ⟨rfl, hSW⟩
              | kq + 10, hk => exact absurd hk (by first | omega | (intro h; simp at h; omega))
            · simp only [puts, Act.put, List.setIfInBounds_toArray, List.set_cons_zero, List.set_cons_succ]
              have hf := hidp (QF.out W hSW)
              clear hSW
              go_wp2
              go_meet
              exact ⟨rfl, hf⟩
        · as_aux_lemma =>
            have z19 := K5.out.cell 19 (v := .int .u32 act.aa) rfl
            have z20 := K5.out.cell 20 (v := .int .i64 act.al) rfl
            have sm : ∀ W : World, BoxA W w4.heap.size act → W.cell? ⟨w4.heap.size, 17, none⟩ = some (.int .i64 act.owner) ∧ W.cell? ⟨w4.heap.size, 18, none⟩ = some (.int .i64 act.id) ∧ W.cell? ⟨w4.heap.size, 19, none⟩ = some (.int .u32 act.aa) ∧ W.cell? ⟨w4.heap.size, 20, none⟩ = some (.int .i64 act.al) := fun W hW =>
              ⟨hW.cell 17 rfl, hW.cell 18 rfl, hW.cell 19 rfl, hW.cell 20 rfl⟩
            have SM := hidp sm
            have K5d : Hid (BoxA w5.drew w4.heap.size act) := K5.out
            have HTd := hidp (HT.out.below (Below.refl w5.heap.size w5).drew (Nat.le_refl _))
            have HDd := hidp (HD.out.below (Below.refl w5.heap.size w5).drew)
            have HGd := hidp (HG.out.later (Below.refl w5.heap.size w5).drew)
            clear z17 z18 z19 z20 sm
            go_wp2_with fail
            go_region_held (fun W : World => W.cell? ⟨w4.heap.size, 17, none⟩ = some (.int .i64 act.owner) ∧ W.cell? ⟨w4.heap.size, 18, none⟩ = some (.int .i64 act.id) ∧ W.cell? ⟨w4.heap.size, 19, none⟩ = some (.int .u32 act.aa) ∧ W.cell? ⟨w4.heap.size, 20, none⟩ = some (.int .i64 act.al))
              (first | exact SM.out _ K7.out | exact SM.out _ K6.out | exact SM.out _ K5d.out)
              (first
                | (go_at_call 10
                   refine (move_any w.heap.size b v L n lf next k act.owner act.id act.aa act.al _ HTd.out HI.out (by omega)).mono ?_
                   rintro e w6 ⟨rfl, ⟨v', T'⟩, F6⟩
                   have HP := hidp (HGd.out.prog HTd.out T' F6)
                   have K6 := hidp (show BoxA w6 w4.heap.size act from box_prog K5d.out ⟨by decide, by decide⟩ HTd.out F6)
                   have D6 := hidp (HDd.out.frameV HTd.out F6)
                   clear T' F6)
                | (go_at_call 23
                   refine (doc_move w.heap.size d aq cq (L.map (dc Af Cf)) n lf next act.owner act.id act.aa act.al _ D6.out (by omega)).mono ?_
                   rw [any_dc]
                   rintro e w7 ⟨rfl, ⟨a', c', D'⟩, F7⟩
                   rw [map_dc_mv] at D'
                   have H7 := hidp (HP.out.doc D6.out D' F7)
                   have K7 := hidp (show BoxA w7 w4.heap.size act from box_doc K6.out (by decide) D6.out F7)
                   clear D' F7))
            have hf : Hid (PR w b d n lf (k + 1) w7) := ⟨Af, Cf, _, next, H7.out.sub mem_mv_sub, (HI.out.mv hkr act.owner act.id act.aa act.al).mono (by omega), hx0, by omega⟩
            go_wp2
            go_meet
            exact ⟨rfl, hf⟩
        · as_aux_lemma =>
            obtain ⟨x, y, r, L', hx, hy, htw, hcl', hsub⟩ := clos_pre w b d Af Cf lf HI.out act.owner act.id
            have HX := hidp hx
            have HY := hidp hy
            have HTW := hidp (And.intro htw (And.intro hcl' hsub))
            clear hx hy htw hcl' hsub
            go_upto_region 22 with (first
              | (go_at_call 14; refine (close_any w.heap.size b v L n lf next act.owner act.id w5 HT.out (by omega)).mono ?_
                 rintro e w6 ⟨hr, F6⟩
                 obtain ⟨rfl, v', T'⟩ := HX.out (fun L' => ∃ v', TabIs w6 w.heap.size b v' L' n lf next) e hr
                 have G6 := hidp (HG.out.prog HT.out T' (FrameV.of_frame1 F6 v))
                 have K6 := hidp (show BoxA w6 w4.heap.size act from box_prog K5.out ⟨by decide, by decide⟩ HT.out (FrameV.of_frame1 F6 v))
                 have D6 := hidp (HD.out.frameV HT.out (FrameV.of_frame1 F6 v))
                 clear hr T' F6)
              | (with_reducible refine wpList_store_row rfl 34 (.tmp 20) (.tmp 137) rfl w6.heap.size x.cells.toArray rfl rfl 34 _ (heap_alloc_new w6 _) (by rw [List.size_toArray, Cur.len]; exact Try.info34) rfl (all_one x) ?_
                 rw [World.setRow_alloc_new]
                 have hk7 := heap_alloc_new w6 (.cells x.cells.toArray 34)
                 have hb7 : Below w6.heap.size w6 (w6.alloc (.cells x.cells.toArray 34)) := (Below.refl _ _).alloc (Nat.le_refl _) _
                 have hg7 := G6.out.later hb7
                 have hd7 := D6.out.below hb7
                 have ha7 := K6.out.below hb7
                 generalize w6.alloc (.cells x.cells.toArray 34) = w7 at *
                 have K7 := hidp (And.intro hk7 ha7)
                 have G7 := hidp hg7
                 have D7 := hidp hd7
                 clear hk7 hb7 hg7 hd7 ha7))
            have z17 := K7.out.2.cell 17 (v := .int .i64 act.owner) rfl
            have z18 := K7.out.2.cell 18 (v := .int .i64 act.id) rfl
            go_upto_region 23 with (first
              | (go_at_call 24; refine (doc_close w.heap.size d aq cq (L.map (dc Af Cf)) n lf next act.owner act.id w7 D7.out (by omega)).mono ?_
                 rintro e w8 ⟨hr, F8⟩
                 obtain ⟨rfl, a', c', D'⟩ := HY.out (fun L' => ∃ a c, DocIs w8 w.heap.size d a c L' n lf next) e hr
                 have G8 := hidp (G7.out.doc D7.out D' F8)
                 have K8 := hidp (box_doc K7.out.1 (by decide) D7.out F8)
                 clear hr D' F8)
              | (with_reducible refine wpList_store_row rfl 53 (.tmp 22) (.tmp 146) rfl w8.heap.size y.cells.toArray rfl rfl 53 _ (heap_alloc_new w8 _) (by rw [List.size_toArray]; exact Try.info53c y) rfl (all_one y) ?_
                 rw [World.setRow_alloc_new]
                 have hk9 := heap_alloc_new w8 (.cells y.cells.toArray 53)
                 have hb8 : Below w8.heap.size w8 (w8.alloc (.cells y.cells.toArray 53)) := (Below.refl _ _).alloc (Nat.le_refl _) _
                 have hx9 := heap_below hb8 K8.out (ltOf K8.out)
                 have hg9 := G8.out.later hb8
                 generalize w8.alloc (.cells y.cells.toArray 53) = w9 at *
                 have K9 := hidp (And.intro hx9 hk9)
                 have G9 := hidp hg9
                 clear hk9 hb8 hx9 hg9))
            have q1 : ∀ W, Below w9.heap.size w9 W → W.rangeAt w6.heap.size 0 x.cells := fun W hW j v hv => cellOf (heap_below hW K9.out.1 (ltOf K9.out.1)) (0 + j) (by simpa using hv)
            have q2 : ∀ W, Below w9.heap.size w9 W → W.rangeAt w8.heap.size 0 y.cells := fun W hW j v hv => cellOf (heap_below hW K9.out.2 (ltOf K9.out.2)) (0 + j) (by simpa using hv)
            have qt : ∀ W, Below w9.heap.size w9 W → Twin W x y := fun W hW => HTW.out.1 W _ _ _ (G9.out.later hW)
            have qf : ∀ W, Below w9.heap.size w9 W → PR w b d n lf (k + 1) W := fun W hW =>
              ⟨Af, Cf, L', next, (G9.out.later hW).sub HTW.out.2.2, HTW.out.2.1.mono (by omega), hx0, by omega⟩
            have Q1 := hidp q1
            have Q2 := hidp q2
            have QT := hidp qt
            have QF := hidp qf
            have hd9 : Below w9.heap.size w9 w9.drew := (Below.refl _ _).drew
            clear q1 q2 qt qf z17 z18
            refine wp_region_flow2 (fun iqv => ([(.bool r : Value), (.bool r : Value), (.bool true : Value), (.bool true : Value), (x.val : Value), (x.val : Value), (y.val : Value), (.bool true : Value), (.bool true : Value), (.bool true : Value)] : List Value).getD iqv undef) [(some 148, .bool r), (some 149, .bool r), (some 150, .bool true), (some 151, .bool true), (some 152, x.val), (some 153, x.val), (some 154, y.val), (some 155, .bool true), (some 156, .bool true), (some 11, .bool true)] (fun W : World => Below w9.heap.size w9 W) (by kernel_rfl) (by kernel_rfl) hd9 (fun iq hiq => ?_) (by kernel_rfl) (fun W hSW => ?_)
            · match iq, hiq with
              | 0, _ =>
                intro aq W hSW hf
                have v21 : aq.tmps[21]? = some (.bool r) := (hf.at_base 21 (by kernel_rfl)).trans rfl
                clear hf
                refine wpOp_flow rfl (by rfl) (fun Kq hK => ?_)
                go_simp
                exact hK _ _ ⟨rfl, hSW⟩
              | 1, _ =>
                intro aq W hSW hf
                have v23 : aq.tmps[23]? = some (.bool r) := (hf.at_base 23 (by kernel_rfl)).trans rfl
                clear hf
                refine wpOp_flow rfl (by rfl) (fun Kq hK => ?_)
                go_simp
                exact hK _ _ ⟨rfl, hSW⟩
              | 2, _ =>
                intro aq W hSW hf
                have v148 : aq.tmps[148]? = some (.bool r) := hf.val 0 148 (by kernel_rfl) rfl
                have v149 : aq.tmps[149]? = some (.bool r) := hf.val 1 149 (by kernel_rfl) rfl
                clear hf
                refine wpOp_flow rfl (by rfl) (fun Kq hK => ?_)
                go_simp
                exact hK _ _ ⟨rfl, hSW⟩
              | 3, _ =>
                intro aq W hSW hf
                have v150 : aq.tmps[150]? = some (.bool true) := hf.val 2 150 (by kernel_rfl) rfl
                clear hf
                refine wpOp_flow rfl (by rfl) (fun Kq hK => ?_)
                go_simp
                exact hK _ _ ⟨rfl, hSW⟩
              | 4, _ =>
                intro aq W hSW hf
                have v20 : aq.tmps[20]? = some (.pointer (some ⟨w6.heap.size, 0, none⟩)) := (hf.at_base 20 (by kernel_rfl)).trans rfl
                have v151 : aq.tmps[151]? = some (.bool true) := hf.val 3 151 (by kernel_rfl) rfl
                clear hf
                refine wpOp_flow rfl (wanted_of rfl rfl v151) (fun Kq hK => ?_)
                refine wp_load_mid 34 (.tmp 20) rfl w6.heap.size 0 (eval_of v20) x.cells _ (Q1.out W hSW) Try.underlying34 rfl (by rw [Cur.len]; exact Try.info34) (hK _ _ ⟨rfl, hSW⟩)
              | 5, _ =>
                intro aq W hSW hf
                have v151 : aq.tmps[151]? = some (.bool true) := hf.val 3 151 (by kernel_rfl) rfl
                have v152 : aq.tmps[152]? = some (x.val) := hf.val 4 152 (by kernel_rfl) rfl
                clear hf
                refine wpOp_flow rfl (wanted_of rfl rfl v151) (fun Kq hK => ?_)
                go_simp
                refine (told_any x _).mono ?_
                rintro e w19 ⟨rfl, B19⟩
                exact hK _ _ ⟨rfl, hSW.trans (B19.mono hSW.size)⟩
              | 6, _ =>
                intro aq W hSW hf
                have v22 : aq.tmps[22]? = some (.pointer (some ⟨w8.heap.size, 0, none⟩)) := (hf.at_base 22 (by kernel_rfl)).trans rfl
                have v151 : aq.tmps[151]? = some (.bool true) := hf.val 3 151 (by kernel_rfl) rfl
                clear hf
                refine wpOp_flow rfl (wanted_of rfl rfl v151) (fun Kq hK => ?_)
                refine wp_load_mid 53 (.tmp 22) rfl w8.heap.size 0 (eval_of v22) y.cells _ (Q2.out W hSW) Try.underlying53 rfl (Try.info53c y) (hK _ _ ⟨rfl, hSW⟩)
              | 7, _ =>
                intro aq W hSW hf
                have v151 : aq.tmps[151]? = some (.bool true) := hf.val 3 151 (by kernel_rfl) rfl
                have v153 : aq.tmps[153]? = some (x.val) := hf.val 5 153 (by kernel_rfl) rfl
                have v154 : aq.tmps[154]? = some (y.val) := hf.val 6 154 (by kernel_rfl) rfl
                clear hf
                refine wpOp_flow rfl (wanted_of rfl rfl v151) (fun Kq hK => ?_)
                go_simp
                refine (csame_twin x y _ (QT.out W hSW)).mono ?_
                rintro e w19 ⟨rfl, B19⟩
                exact hK _ _ ⟨rfl, hSW.trans (B19.mono hSW.size)⟩
              | 8, _ =>
                intro aq W hSW hf
                have v151 : aq.tmps[151]? = some (.bool true) := hf.val 3 151 (by kernel_rfl) rfl
                have v155 : aq.tmps[155]? = some (.bool true) := hf.val 7 155 (by kernel_rfl) rfl
                clear hf
                refine wpOp_flow rfl (by rfl) (fun Kq hK => ?_)
                go_simp
                exact hK _ _ ⟨rfl, hSW⟩
              | 9, _ =>
                intro aq W hSW hf
                have v156 : aq.tmps[156]? = some (.bool true) := hf.val 8 156 (by kernel_rfl) rfl
                clear hf
                refine wpOp_flow rfl (by rfl) (fun Kq hK => ?_)
                go_simp
                exact hK _ _ ⟨rfl, hSW⟩
              | kq + 10, hk => exact absurd hk (by first | omega | (intro h; simp at h; omega))
            · simp only [puts, Act.put, List.setIfInBounds_toArray, List.set_cons_zero, List.set_cons_succ]
              have hf := hidp (QF.out W hSW)
              clear hSW
              go_wp2
              go_meet
              exact ⟨rfl, hf⟩
        · as_aux_lemma =>
            have sm : ∀ W : World, BoxA W w4.heap.size act → W.cell? ⟨w4.heap.size, 17, none⟩ = some (.int .i64 act.owner) := fun W hW => hW.cell 17 rfl
            have SM := hidp sm
            have K5d : Hid (BoxA w5.drew w4.heap.size act) := K5.out
            have HTd := hidp (HT.out.below (Below.refl w5.heap.size w5).drew (Nat.le_refl _))
            have HDd := hidp (HD.out.below (Below.refl w5.heap.size w5).drew)
            have HGd := hidp (HG.out.later (Below.refl w5.heap.size w5).drew)
            clear z17 z18 sm
            go_wp2_with fail
            go_region_held (fun W : World => W.cell? ⟨w4.heap.size, 17, none⟩ = some (.int .i64 act.owner))
              (first | exact SM.out _ K8.out | exact SM.out _ K7.out | exact SM.out _ K6.out | exact SM.out _ K5d.out)
              (first
                | (go_at_call 15
                   refine (leave_any w.heap.size b v L n lf next act.owner _ HTd.out (by omega)).mono ?_
                   rintro e w6 ⟨o6, rfl, hO, ⟨v', T'⟩, F6⟩
                   have hgp : GoneP w b d Af Cf (L.map (dc Af Cf)) L (L.filter fun c => !(c.owner == act.owner)) (L.filter fun c => c.owner == act.owner) n lf next o6 w6 := ⟨HGd.out.prog HTd.out T' (FrameV.of_frame1 F6 v), ownsRow_weaken hO HGd.out.below.size⟩
                   have HP := hidp hgp
                   have K6 := hidp (show BoxA w6 w4.heap.size act from box_prog K5d.out ⟨by decide, by decide⟩ HTd.out (FrameV.of_frame1 F6 v))
                   have D6 := hidp (HDd.out.frameV HTd.out (FrameV.of_frame1 F6 v))
                   clear hO T' F6 hgp)
                | (go_at_call 25
                   refine (doc_leave w.heap.size d aq cq (L.map (dc Af Cf)) n lf next act.owner _ D6.out (by omega)).mono ?_
                   rintro e w7 ⟨g7, rfl, hO, ⟨a', c', D'⟩, F7⟩
                   rw [map_dc_filter (fun _ => rfl)] at hO D'
                   have H7 := hidp (HP.out.both D6.out D' F7 hO mem_filter_sub mem_filter_sub (by have := List.length_filter_le (fun c : Cur => c.owner == act.owner) L; omega))
                   have K7 := hidp (show BoxA w7 w4.heap.size act from box_doc K6.out (by decide) D6.out F7)
                   clear hO D' F7)
                | (go_at_call 20
                   refine (same_of H7.out.2).mono ?_
                   rintro e w8 ⟨rfl, B8⟩
                   have H8 := hidp (show PR w b d n lf (k + 1) w8 from ⟨Af, Cf, _, next, H7.out.1.later B8, (HI.out.filter _).mono (by omega), hx0, by omega⟩)
                   have K8 := hidp (K7.out.below B8)
                   clear B8))
            go_wp2
            go_meet
            exact ⟨rfl, H8⟩
        · as_aux_lemma =>
            clear z17 z18
            go_wp2_with (first
              | (go_at_call 9; refine (tick_any w.heap.size b v L n lf next w5 HT.out (by omega) HAG.out).mono ?_
                 rintro e w6 ⟨o6, rfl, hO, ⟨v', T'⟩, F6⟩
                 have hgp : GoneP w b d Af Cf (L.map (dc Af Cf)) L ((L.map Cur.older).filter fun c => !decide (lf ≤ c.age)) ((L.map Cur.older).filter fun c => decide (lf ≤ c.age)) n lf next o6 w6 := ⟨HG.out.prog HT.out T' F6, ownsRow_weaken hO HG.out.below.size⟩
                 have HP := hidp hgp
                 have D6 := hidp (HD.out.frameV HT.out F6)
                 clear hO T' F6 hgp)
              | (go_at_call 26; refine (doc_tick w.heap.size d aq cq (L.map (dc Af Cf)) n lf next w6 D6.out (by omega) ?_).mono ?_
                 · intro c hc
                   obtain ⟨c0, h0, rfl⟩ := List.mem_map.1 hc
                   exact HAG.out c0 h0
                 rintro e w7 ⟨g7, rfl, hO, ⟨a', c', D'⟩, F7⟩
                 rw [map_dc_older, map_dc_filter (fun _ => rfl)] at hO D'
                 have H7 := hidp (HP.out.both D6.out D' F7 hO mem_older_sub mem_older_sub (by have := List.length_filter_le (fun c : Cur => decide (lf ≤ c.age)) (L.map Cur.older); simp at this; omega))
                 clear hO D' F7)
              | (go_at_call 20; refine (same_of H7.out.2).mono ?_; rintro e w8 ⟨rfl, B8⟩
                 have H8 := hidp (show PR w b d n lf (k + 1) w8 from ⟨Af, Cf, _, next, H7.out.1.later B8, HI.out.older.filter _, hx0, by omega⟩)
                 clear B8))
            go_meet
            exact ⟨rfl, H8⟩
      case rest =>
        as_aux_lemma =>
          obtain ⟨rfl, HP⟩ := hcut
          obtain ⟨w6, rfl⟩ : ∃ w6, w6 = wc := ⟨_, rfl⟩
          clear P5 K5 HS HCB HJ hact HR hc0
          obtain ⟨Af, Cf, L, next, gG, tT, hx0, hxk⟩ := HP.out
          obtain ⟨v, hTt⟩ := gG.p
          obtain ⟨da, dn, hDd⟩ := gG.q
          have hL8 : L.length ≤ 8 := by have := tT.len; omega
          have hlm : (L.map (dc Af Cf)).length = L.length := by simp
          have c3 : ∀ W, Below w6.heap.size w6 W → W.cell? ⟨d, 3, none⟩ = some (.slice da L.length dn) := fun W hW => by
            have := cellOf (heap_below hW hDd.blk (ltOf hDd.blk)) 3 (v := .slice da (L.map (dc Af Cf)).length dn) rfl
            rw [hlm] at this
            exact this
          have C3 := hidp c3
          have HT := hidp hTt
          have HD := hidp hDd
          have HG := hidp gG
          have HI := hidp tT
          have hd6 : Below w6.heap.size w6 w6.drew := (Below.refl _ _).drew
          clear gG tT hTt hDd hlm c3
          go_wp2
          refine wp_region_flow2 (fun iqv => ([(.bool true : Value), (.bool false : Value), (.bool false : Value), (.pointer (some ⟨b, 0, none⟩) : Value), (.int .i64 (L.length : Int) : Value), (.pointer (some ⟨d, 0, none⟩) : Value), (.pointer (some ⟨d, 0, none⟩) : Value), (.pointer (some ⟨d, 3, none⟩) : Value), (.slice da L.length dn : Value), (.int .i64 (L.length : Int) : Value), (.bool false : Value), (.bool false : Value)] : List Value).getD iqv undef) [(some 168, .bool true), (some 169, .bool false), (some 170, .bool false), (some 171, .pointer (some ⟨b, 0, none⟩)), (some 172, .int .i64 (L.length : Int)), (some 173, .pointer (some ⟨d, 0, none⟩)), (some 174, .pointer (some ⟨d, 0, none⟩)), (some 175, .pointer (some ⟨d, 3, none⟩)), (some 176, .slice da L.length dn), (some 177, .int .i64 (L.length : Int)), (some 178, .bool false), (some 179, .bool false)] (fun W : World => Below w6.heap.size w6 W) (by kernel_rfl) (by kernel_rfl) hd6 (fun iq hiq => ?_) (by kernel_rfl) (fun W hSW => ?_)
          · match iq, hiq with
            | 0, _ =>
              intro aq W hSW hf
              have v11 : aq.tmps[11]? = some (.bool true) := (hf.at_base 11 (by kernel_rfl)).trans rfl
              clear hf
              refine wpOp_flow rfl (by rfl) (fun Kq hK => ?_)
              go_simp
              exact hK _ _ ⟨rfl, hSW⟩
            | 1, _ =>
              intro aq W hSW hf
              have v168 : aq.tmps[168]? = some (.bool true) := hf.val 0 168 (by kernel_rfl) rfl
              clear hf
              refine wpOp_flow rfl (by rfl) (fun Kq hK => ?_)
              go_simp
              exact hK _ _ ⟨rfl, hSW⟩
            | 2, _ =>
              intro aq W hSW hf
              have v169 : aq.tmps[169]? = some (.bool false) := hf.val 1 169 (by kernel_rfl) rfl
              clear hf
              refine wpOp_flow rfl (by rfl) (fun Kq hK => ?_)
              go_simp
              exact hK _ _ ⟨rfl, hSW⟩
            | 3, _ =>
              intro aq W hSW hf
              have v7 : aq.tmps[7]? = some (.pointer (some ⟨b, 0, none⟩)) := (hf.at_base 7 (by kernel_rfl)).trans rfl
              have v170 : aq.tmps[170]? = some (.bool false) := hf.val 2 170 (by kernel_rfl) rfl
              clear hf
              refine wpOp_flow rfl (wanted_of rfl rfl v170) (fun Kq hK => ?_)
              go_simp
              exact hK _ _ ⟨rfl, hSW⟩
            | 4, _ =>
              intro aq W hSW hf
              have v170 : aq.tmps[170]? = some (.bool false) := hf.val 2 170 (by kernel_rfl) rfl
              have v171 : aq.tmps[171]? = some (.pointer (some ⟨b, 0, none⟩)) := hf.val 3 171 (by kernel_rfl) rfl
              clear hf
              refine wpOp_flow rfl (wanted_of rfl rfl v170) (fun Kq hK => ?_)
              go_simp
              refine (len_any w.heap.size b v L n lf next _ (HT.out.below hSW (Nat.le_refl _))).mono ?_
              rintro e w19 ⟨rfl, B19⟩
              exact hK _ _ ⟨rfl, by first | exact hSW.trans (B19.mono hSW.size) | (subst B19; exact hSW)⟩
            | 5, _ =>
              intro aq W hSW hf
              have v8 : aq.tmps[8]? = some (.pointer (some ⟨d, 0, none⟩)) := (hf.at_base 8 (by kernel_rfl)).trans rfl
              have v170 : aq.tmps[170]? = some (.bool false) := hf.val 2 170 (by kernel_rfl) rfl
              clear hf
              refine wpOp_flow rfl (wanted_of rfl rfl v170) (fun Kq hK => ?_)
              go_simp
              exact hK _ _ ⟨rfl, hSW⟩
            | 6, _ =>
              intro aq W hSW hf
              have v170 : aq.tmps[170]? = some (.bool false) := hf.val 2 170 (by kernel_rfl) rfl
              have v173 : aq.tmps[173]? = some (.pointer (some ⟨d, 0, none⟩)) := hf.val 5 173 (by kernel_rfl) rfl
              clear hf
              refine wpOp_flow rfl (wanted_of rfl rfl v170) (fun Kq hK => ?_)
              go_simp
              exact hK _ _ ⟨rfl, hSW⟩
            | 7, _ =>
              intro aq W hSW hf
              have v170 : aq.tmps[170]? = some (.bool false) := hf.val 2 170 (by kernel_rfl) rfl
              have v174 : aq.tmps[174]? = some (.pointer (some ⟨d, 0, none⟩)) := hf.val 6 174 (by kernel_rfl) rfl
              clear hf
              refine wpOp_flow rfl (wanted_of rfl rfl v170) (fun Kq hK => ?_)
              go_simp
              exact hK _ _ ⟨rfl, hSW⟩
            | 8, _ =>
              intro aq W hSW hf
              have v170 : aq.tmps[170]? = some (.bool false) := hf.val 2 170 (by kernel_rfl) rfl
              have v175 : aq.tmps[175]? = some (.pointer (some ⟨d, 3, none⟩)) := hf.val 7 175 (by kernel_rfl) rfl
              clear hf
              refine wpOp_flow rfl (wanted_of rfl rfl v170) (fun Kq hK => ?_)
              have c3 := C3.out W hSW
              go_simp
              exact hK _ _ ⟨rfl, hSW⟩
            | 9, _ =>
              intro aq W hSW hf
              have v170 : aq.tmps[170]? = some (.bool false) := hf.val 2 170 (by kernel_rfl) rfl
              have v176 : aq.tmps[176]? = some (.slice da L.length dn) := hf.val 8 176 (by kernel_rfl) rfl
              clear hf
              refine wpOp_flow rfl (wanted_of rfl rfl v170) (fun Kq hK => ?_)
              go_simp
              exact hK _ _ ⟨rfl, hSW⟩
            | 10, _ =>
              intro aq W hSW hf
              have v170 : aq.tmps[170]? = some (.bool false) := hf.val 2 170 (by kernel_rfl) rfl
              have v172 : aq.tmps[172]? = some (.int .i64 (L.length : Int)) := hf.val 4 172 (by kernel_rfl) rfl
              have v177 : aq.tmps[177]? = some (.int .i64 (L.length : Int)) := hf.val 9 177 (by kernel_rfl) rfl
              clear hf
              refine wpOp_flow rfl (wanted_of rfl rfl v170) (fun Kq hK => ?_)
              go_simp
              exact hK _ _ ⟨rfl, hSW⟩
            | 11, _ =>
              intro aq W hSW hf
              have v170 : aq.tmps[170]? = some (.bool false) := hf.val 2 170 (by kernel_rfl) rfl
              have v178 : aq.tmps[178]? = some (.bool false) := hf.val 10 178 (by kernel_rfl) rfl
              clear hf
              refine wpOp_flow rfl (by rfl) (fun Kq hK => ?_)
              go_simp
              exact hK _ _ ⟨rfl, hSW⟩
            | kq + 12, hk => exact absurd hk (by first | omega | (intro h; simp at h; omega))
          · simp only [puts, Act.put, List.setIfInBounds_toArray, List.set_cons_zero, List.set_cons_succ]
            have hB := hidp hSW
            clear hSW
            go_wp2
            go_loopw [24] (fun i wr => ∃ m : Nat, m ≤ L.length ∧ i = .int .i64 m ∧ Below w6.heap.size w6 wr) (fun i _ => L.length - (intOf i).toNat)
            case atStart => exact ⟨0, by omega, rfl, hB.out⟩
            case round =>
              obtain ⟨m, hm, rfl, hB7⟩ := hrel
              obtain ⟨w7, rfl⟩ : ∃ w7, w7 = wr := ⟨_, rfl⟩
              have c3 := C3.out w7 hB7
              have HB7 := hidp hB7
              clear hB7
              by_cases hml : m < L.length
              · have l2 : (m : Int) < (L.length : Int) := by omega
                have hmm : m < (L.map (dc Af Cf)).length := by simpa using hml
                obtain ⟨g2, o2, rfl, hr2⟩ := HD.out.row (by omega)
                have hr := hr2 m hmm
                rw [List.getElem_map] at hr
                have hf : ∀ e, GotP L[m].owner L[m].id L e → e = .returned (.tuple #[.agg L[m].cells.toArray, .bool true]) := fun e h => by
                  have hfo := HI.out.found hml
                  rcases h with ⟨i1, _⟩ | ⟨j2, hj2, i2, e2⟩
                  · omega
                  · obtain rfl : m = j2 := by omega
                    exact e2
                have ht : ∀ W, Below w6.heap.size w6 W → Twin W L[m] (dc Af Cf L[m]) := fun W hW => (HG.out.later hW).twin (List.getElem_mem hml)
                obtain ⟨x, hx⟩ : ∃ x, x = L[m] := ⟨_, rfl⟩
                rw [← hx] at hr hf ht
                obtain ⟨y, hy⟩ : ∃ y, y = dc Af Cf x := ⟨_, rfl⟩
                rw [← hy] at hr ht
                have hyo : y.owner = x.owner := by rw [hy]; rfl
                have hyi : y.id = x.id := by rw [hy]; rfl
                have q2 : ∀ W, Below w6.heap.size w6 W → W.rangeAt g2 (o2 + m * 16) y.cells := fun W hW j v hv => below_cell hW (Nat.le_refl _) _ _ (hr j v hv)
                have e0 : ∀ W, Below w6.heap.size w6 W → W.cell? ⟨g2, o2 + m * 16, none⟩ = some (.int .i64 x.id) := fun W hW => by rw [← hyi]; exact q2 W hW 0 _ rfl
                have e1 : ∀ W, Below w6.heap.size w6 W → W.cell? ⟨g2, o2 + m * 16 + 1, none⟩ = some (.int .i64 x.owner) := fun W hW => by rw [← hyo]; exact q2 W hW 1 _ rfl
                have Q2 := hidp q2
                have E0 := hidp e0
                have E1 := hidp e1
                have HF := hidp hf
                have QT := hidp ht
                have hd7 : Below w7.heap.size w7 w7.drew := (Below.refl _ _).drew
                clear hr hr2 hf ht q2 e0 e1 hyo hyi hx hy hmm
                go_wp2
                refine wp_region_flowA (fun iqv => ([(.pointer (some ⟨b, 0, none⟩) : Value), (.pointer (some ⟨d, 0, none⟩) : Value), (.pointer (some ⟨d, 0, none⟩) : Value), (.pointer (some ⟨d, 3, none⟩) : Value), (.slice (some ⟨g2, o2, none⟩) L.length dn : Value), (.int .i64 (m : Int) : Value), (.pointer (some ⟨g2, o2 + m * 16, none⟩) : Value), (.pointer (some ⟨g2, o2 + m * 16 + 1, none⟩) : Value), (.int .i64 x.owner : Value), (.pointer (some ⟨d, 0, none⟩) : Value), (.pointer (some ⟨d, 0, none⟩) : Value), (.pointer (some ⟨d, 3, none⟩) : Value), (.slice (some ⟨g2, o2, none⟩) L.length dn : Value), (.int .i64 (m : Int) : Value), (.pointer (some ⟨g2, o2 + m * 16, none⟩) : Value), (.pointer (some ⟨g2, o2 + m * 16, none⟩) : Value), (.int .i64 x.id : Value), (.tuple #[.agg x.cells.toArray, .bool true] : Value), (.tuple #[.agg x.cells.toArray, .bool true] : Value), (.agg x.cells.toArray : Value), (.bool true : Value), (undef : Value), (undef : Value), (.bool true : Value)] : List Value).getD iqv undef) 21 22 (fun W : World => Below w7.heap.size w7 W) (fun q b W => w7.heap.size ≤ q ∧ W.heap[q]? = some (.cells (boxC x b) 34 (0, 0))) (fun q => [(some 190, .pointer (some ⟨b, 0, none⟩)), (some 191, .pointer (some ⟨d, 0, none⟩)), (some 192, .pointer (some ⟨d, 0, none⟩)), (some 193, .pointer (some ⟨d, 3, none⟩)), (some 194, .slice (some ⟨g2, o2, none⟩) L.length dn), (some 195, .int .i64 (m : Int)), (some 196, .pointer (some ⟨g2, o2 + m * 16, none⟩)), (some 197, .pointer (some ⟨g2, o2 + m * 16 + 1, none⟩)), (some 198, .int .i64 x.owner), (some 199, .pointer (some ⟨d, 0, none⟩)), (some 200, .pointer (some ⟨d, 0, none⟩)), (some 201, .pointer (some ⟨d, 3, none⟩)), (some 202, .slice (some ⟨g2, o2, none⟩) L.length dn), (some 203, .int .i64 (m : Int)), (some 204, .pointer (some ⟨g2, o2 + m * 16, none⟩)), (some 205, .pointer (some ⟨g2, o2 + m * 16, none⟩)), (some 206, .int .i64 x.id), (some 207, .tuple #[.agg x.cells.toArray, .bool true]), (some 189, .tuple #[.agg x.cells.toArray, .bool true]), (some 208, .agg x.cells.toArray), (some 209, .bool true), (some 25, .pointer (some ⟨q, 0, none⟩)), (none, undef), (some 26, .bool true)]) (by kernel_rfl) (by kernel_rfl) (of_decide_eq_true (by kernel_rfl)) (of_decide_eq_true (by kernel_rfl)) (by kernel_rfl) (by kernel_rfl) (by kernel_rfl) hd7 (fun iq hiq hik his => ?_) ?_ ?_ (fun q => by kernel_rfl) (fun q W hSW hE => ?_)
                · match iq, hiq with
                  | 0, _ =>
                    intro aq W hSW hf
                    have v7 : aq.tmps[7]? = some (.pointer (some ⟨b, 0, none⟩)) := (hf.at_base 7 (by kernel_rfl)).trans rfl
                    clear hf
                    refine wpOp_flow rfl (by rfl) (fun Kq hK => ?_)
                    go_simp
                    exact hK _ _ ⟨rfl, hSW, fun _ _ h => h⟩
                  | 1, _ =>
                    intro aq W hSW hf
                    have v8 : aq.tmps[8]? = some (.pointer (some ⟨d, 0, none⟩)) := (hf.at_base 8 (by kernel_rfl)).trans rfl
                    clear hf
                    refine wpOp_flow rfl (by rfl) (fun Kq hK => ?_)
                    go_simp
                    exact hK _ _ ⟨rfl, hSW, fun _ _ h => h⟩
                  | 2, _ =>
                    intro aq W hSW hf
                    have v191 : aq.tmps[191]? = some (.pointer (some ⟨d, 0, none⟩)) := hf.val 1 191 (by kernel_rfl) rfl
                    clear hf
                    refine wpOp_flow rfl (by rfl) (fun Kq hK => ?_)
                    go_simp
                    exact hK _ _ ⟨rfl, hSW, fun _ _ h => h⟩
                  | 3, _ =>
                    intro aq W hSW hf
                    have v192 : aq.tmps[192]? = some (.pointer (some ⟨d, 0, none⟩)) := hf.val 2 192 (by kernel_rfl) rfl
                    clear hf
                    refine wpOp_flow rfl (by rfl) (fun Kq hK => ?_)
                    go_simp
                    exact hK _ _ ⟨rfl, hSW, fun _ _ h => h⟩
                  | 4, _ =>
                    intro aq W hSW hf
                    have v193 : aq.tmps[193]? = some (.pointer (some ⟨d, 3, none⟩)) := hf.val 3 193 (by kernel_rfl) rfl
                    clear hf
                    refine wpOp_flow rfl (by rfl) (fun Kq hK => ?_)
                    have ck := C3.out W (HB7.out.trans (hSW.mono HB7.out.size))
                    go_simp
                    exact hK _ _ ⟨rfl, hSW, fun _ _ h => h⟩
                  | 5, _ =>
                    intro aq W hSW hf
                    have v24 : aq.tmps[24]? = some (.int .i64 (m : Int)) := (hf.at_base 24 (by kernel_rfl)).trans rfl
                    clear hf
                    refine wpOp_flow rfl (by rfl) (fun Kq hK => ?_)
                    go_simp
                    exact hK _ _ ⟨rfl, hSW, fun _ _ h => h⟩
                  | 6, _ =>
                    intro aq W hSW hf
                    have v194 : aq.tmps[194]? = some (.slice (some ⟨g2, o2, none⟩) L.length dn) := hf.val 4 194 (by kernel_rfl) rfl
                    have v195 : aq.tmps[195]? = some (.int .i64 (m : Int)) := hf.val 5 195 (by kernel_rfl) rfl
                    clear hf
                    refine wpOp_flow rfl (by rfl) (fun Kq hK => ?_)
                    go_simp
                    exact hK _ _ ⟨rfl, hSW, fun _ _ h => h⟩
                  | 7, _ =>
                    intro aq W hSW hf
                    have v196 : aq.tmps[196]? = some (.pointer (some ⟨g2, o2 + m * 16, none⟩)) := hf.val 6 196 (by kernel_rfl) rfl
                    clear hf
                    refine wpOp_flow rfl (by rfl) (fun Kq hK => ?_)
                    go_simp
                    exact hK _ _ ⟨rfl, hSW, fun _ _ h => h⟩
                  | 8, _ =>
                    intro aq W hSW hf
                    have v197 : aq.tmps[197]? = some (.pointer (some ⟨g2, o2 + m * 16 + 1, none⟩)) := hf.val 7 197 (by kernel_rfl) rfl
                    clear hf
                    refine wpOp_flow rfl (by rfl) (fun Kq hK => ?_)
                    have ck := E1.out W (HB7.out.trans (hSW.mono HB7.out.size))
                    go_simp
                    exact hK _ _ ⟨rfl, hSW, fun _ _ h => h⟩
                  | 9, _ =>
                    intro aq W hSW hf
                    have v8 : aq.tmps[8]? = some (.pointer (some ⟨d, 0, none⟩)) := (hf.at_base 8 (by kernel_rfl)).trans rfl
                    clear hf
                    refine wpOp_flow rfl (by rfl) (fun Kq hK => ?_)
                    go_simp
                    exact hK _ _ ⟨rfl, hSW, fun _ _ h => h⟩
                  | 10, _ =>
                    intro aq W hSW hf
                    have v199 : aq.tmps[199]? = some (.pointer (some ⟨d, 0, none⟩)) := hf.val 9 199 (by kernel_rfl) rfl
                    clear hf
                    refine wpOp_flow rfl (by rfl) (fun Kq hK => ?_)
                    go_simp
                    exact hK _ _ ⟨rfl, hSW, fun _ _ h => h⟩
                  | 11, _ =>
                    intro aq W hSW hf
                    have v200 : aq.tmps[200]? = some (.pointer (some ⟨d, 0, none⟩)) := hf.val 10 200 (by kernel_rfl) rfl
                    clear hf
                    refine wpOp_flow rfl (by rfl) (fun Kq hK => ?_)
                    go_simp
                    exact hK _ _ ⟨rfl, hSW, fun _ _ h => h⟩
                  | 12, _ =>
                    intro aq W hSW hf
                    have v201 : aq.tmps[201]? = some (.pointer (some ⟨d, 3, none⟩)) := hf.val 11 201 (by kernel_rfl) rfl
                    clear hf
                    refine wpOp_flow rfl (by rfl) (fun Kq hK => ?_)
                    have ck := C3.out W (HB7.out.trans (hSW.mono HB7.out.size))
                    go_simp
                    exact hK _ _ ⟨rfl, hSW, fun _ _ h => h⟩
                  | 13, _ =>
                    intro aq W hSW hf
                    have v24 : aq.tmps[24]? = some (.int .i64 (m : Int)) := (hf.at_base 24 (by kernel_rfl)).trans rfl
                    clear hf
                    refine wpOp_flow rfl (by rfl) (fun Kq hK => ?_)
                    go_simp
                    exact hK _ _ ⟨rfl, hSW, fun _ _ h => h⟩
                  | 14, _ =>
                    intro aq W hSW hf
                    have v202 : aq.tmps[202]? = some (.slice (some ⟨g2, o2, none⟩) L.length dn) := hf.val 12 202 (by kernel_rfl) rfl
                    have v203 : aq.tmps[203]? = some (.int .i64 (m : Int)) := hf.val 13 203 (by kernel_rfl) rfl
                    clear hf
                    refine wpOp_flow rfl (by rfl) (fun Kq hK => ?_)
                    go_simp
                    exact hK _ _ ⟨rfl, hSW, fun _ _ h => h⟩
                  | 15, _ =>
                    intro aq W hSW hf
                    have v204 : aq.tmps[204]? = some (.pointer (some ⟨g2, o2 + m * 16, none⟩)) := hf.val 14 204 (by kernel_rfl) rfl
                    clear hf
                    refine wpOp_flow rfl (by rfl) (fun Kq hK => ?_)
                    go_simp
                    exact hK _ _ ⟨rfl, hSW, fun _ _ h => h⟩
                  | 16, _ =>
                    intro aq W hSW hf
                    have v205 : aq.tmps[205]? = some (.pointer (some ⟨g2, o2 + m * 16, none⟩)) := hf.val 15 205 (by kernel_rfl) rfl
                    clear hf
                    refine wpOp_flow rfl (by rfl) (fun Kq hK => ?_)
                    have ck := E0.out W (HB7.out.trans (hSW.mono HB7.out.size))
                    go_simp
                    exact hK _ _ ⟨rfl, hSW, fun _ _ h => h⟩
                  | 17, _ =>
                    intro aq W hSW hf
                    have v190 : aq.tmps[190]? = some (.pointer (some ⟨b, 0, none⟩)) := hf.val 0 190 (by kernel_rfl) rfl
                    have v198 : aq.tmps[198]? = some (.int .i64 x.owner) := hf.val 8 198 (by kernel_rfl) rfl
                    have v206 : aq.tmps[206]? = some (.int .i64 x.id) := hf.val 16 206 (by kernel_rfl) rfl
                    clear hf
                    refine wpOp_flow rfl (by rfl) (fun Kq hK => ?_)
                    go_simp
                    refine (get_any w.heap.size b v L n lf next x.owner x.id _ (HT.out.below (HB7.out.trans (hSW.mono HB7.out.size)) (Nat.le_refl _)) (by omega)).mono ?_
                    rintro e w19 ⟨hr, B19⟩
                    obtain rfl := HF.out e hr
                    exact hK _ _ ⟨rfl, hSW.trans (B19.mono hSW.size), fun q b h => ⟨h.1, heap_below B19 h.2 (ltOf h.2)⟩⟩
                  | 18, _ =>
                    intro aq W hSW hf
                    have v207 : aq.tmps[207]? = some (.tuple #[.agg x.cells.toArray, .bool true]) := hf.val 17 207 (by kernel_rfl) rfl
                    clear hf
                    refine wpOp_flow rfl (by rfl) (fun Kq hK => ?_)
                    go_simp
                    exact hK _ _ ⟨rfl, hSW, fun _ _ h => h⟩
                  | 19, _ =>
                    intro aq W hSW hf
                    have v189 : aq.tmps[189]? = some (.tuple #[.agg x.cells.toArray, .bool true]) := hf.val 18 189 (by kernel_rfl) rfl
                    clear hf
                    refine wpOp_flow rfl (by rfl) (fun Kq hK => ?_)
                    go_simp
                    exact hK _ _ ⟨rfl, hSW, fun _ _ h => h⟩
                  | 20, _ =>
                    intro aq W hSW hf
                    have v189 : aq.tmps[189]? = some (.tuple #[.agg x.cells.toArray, .bool true]) := hf.val 18 189 (by kernel_rfl) rfl
                    clear hf
                    refine wpOp_flow rfl (by rfl) (fun Kq hK => ?_)
                    go_simp
                    exact hK _ _ ⟨rfl, hSW, fun _ _ h => h⟩
                  | 21, _ =>
                    exact absurd rfl hik
                  | 22, _ =>
                    exact absurd rfl his
                  | 23, _ =>
                    intro aq W hSW hf
                    have v209 : aq.tmps[209]? = some (.bool true) := hf.val 20 209 (by kernel_rfl) rfl
                    clear hf
                    refine wpOp_flow rfl (by rfl) (fun Kq hK => ?_)
                    go_simp
                    exact hK _ _ ⟨rfl, hSW, fun _ _ h => h⟩
                  | kq + 24, hk => exact absurd hk (by first | omega | (intro h; simp at h; omega))
                · intro aq W hSW
                  refine wpOp_flow rfl (by rfl) (fun Kq hK => ?_)
                  go_simp
                  exact hK _ _ ⟨W.heap.size, rfl, hSW.alloc hSW.size _, hSW.size, heap_alloc_new W _⟩
                · intro q aq W hSW hE hf
                  have v25 : aq.tmps[25]? = some (.pointer (some ⟨q, 0, none⟩)) := hf.val 21 25 (by kernel_rfl) rfl
                  have v208 : aq.tmps[208]? = some (.agg x.cells.toArray) := hf.val 19 208 (by kernel_rfl) rfl
                  clear hf
                  refine wpOp_flow rfl (by rfl) (fun Kq hK => ?_)
                  refine wp_store_row 34 (.tmp 25) (.tmp 208) rfl q x.cells.toArray (eval_of v25) (eval_of v208) 34 _ hE.2 (by rw [List.size_toArray, Cur.len]; exact Try.info34) rfl (all_one x) (hK _ _ ?_)
                  exact ⟨rfl, below_setRow hSW q hE.1 _, hE.1, setRow_heap W _ _ _ _ _ hE.2⟩
                · simp only [puts, Act.put, List.setIfInBounds_toArray, List.set_cons_zero, List.set_cons_succ]
                  obtain ⟨w9, rfl⟩ : ∃ w9, w9 = W := ⟨_, rfl⟩
                  have hB9 : Below w7.heap.size w7 w9 := hSW
                  have HE9 : Hid (w9.heap[q]? = some (.cells x.cells.toArray 34 (0, 0))) := hE.2
                  clear hSW hE
                  have q1 : ∀ W, Below w9.heap.size w9 W → W.rangeAt q 0 x.cells := fun W hW j v hv => cellOf (heap_below hW HE9.out (ltOf HE9.out)) (0 + j) (by simpa using hv)
                  have Q1 := hidp q1
                  have H9 := hidp (HB7.out.trans (hB9.mono HB7.out.size))
                  have hd9 : Below w9.heap.size w9 w9.drew := (Below.refl _ _).drew
                  clear q1 hB9
                  go_wp2
                  refine wp_region_flow2 (fun iqv => ([(.bool true : Value), (.bool false : Value), (.bool false : Value), (x.val : Value), (x.val : Value), (.pointer (some ⟨d, 0, none⟩) : Value), (.pointer (some ⟨d, 0, none⟩) : Value), (.pointer (some ⟨d, 3, none⟩) : Value), (.slice (some ⟨g2, o2, none⟩) L.length dn : Value), (.int .i64 (m : Int) : Value), (.pointer (some ⟨g2, o2 + m * 16, none⟩) : Value), (y.val : Value), (.bool true : Value), (.bool false : Value), (.bool false : Value)] : List Value).getD iqv undef) [(some 210, .bool true), (some 211, .bool false), (some 212, .bool false), (some 213, x.val), (some 214, x.val), (some 215, .pointer (some ⟨d, 0, none⟩)), (some 216, .pointer (some ⟨d, 0, none⟩)), (some 217, .pointer (some ⟨d, 3, none⟩)), (some 218, .slice (some ⟨g2, o2, none⟩) L.length dn), (some 219, .int .i64 (m : Int)), (some 220, .pointer (some ⟨g2, o2 + m * 16, none⟩)), (some 221, y.val), (some 222, .bool true), (some 223, .bool false), (some 224, .bool false)] (fun W : World => Below w9.heap.size w9 W) (by kernel_rfl) (by kernel_rfl) hd9 (fun iq hiq => ?_) (by kernel_rfl) (fun W hSW => ?_)
                  · match iq, hiq with
                    | 0, _ =>
                      intro aq W hSW hf
                      have v26 : aq.tmps[26]? = some (.bool true) := (hf.at_base 26 (by kernel_rfl)).trans rfl
                      clear hf
                      refine wpOp_flow rfl (by rfl) (fun Kq hK => ?_)
                      go_simp
                      exact hK _ _ ⟨rfl, hSW⟩
                    | 1, _ =>
                      intro aq W hSW hf
                      have v210 : aq.tmps[210]? = some (.bool true) := hf.val 0 210 (by kernel_rfl) rfl
                      clear hf
                      refine wpOp_flow rfl (by rfl) (fun Kq hK => ?_)
                      go_simp
                      exact hK _ _ ⟨rfl, hSW⟩
                    | 2, _ =>
                      intro aq W hSW hf
                      have v211 : aq.tmps[211]? = some (.bool false) := hf.val 1 211 (by kernel_rfl) rfl
                      clear hf
                      refine wpOp_flow rfl (by rfl) (fun Kq hK => ?_)
                      go_simp
                      exact hK _ _ ⟨rfl, hSW⟩
                    | 3, _ =>
                      intro aq W hSW hf
                      have v25 : aq.tmps[25]? = some (.pointer (some ⟨q, 0, none⟩)) := (hf.at_base 25 (by kernel_rfl)).trans rfl
                      have v212 : aq.tmps[212]? = some (.bool false) := hf.val 2 212 (by kernel_rfl) rfl
                      clear hf
                      refine wpOp_flow rfl (wanted_of rfl rfl v212) (fun Kq hK => ?_)
                      refine wp_load_mid 34 (.tmp 25) rfl q 0 (eval_of v25) x.cells _ (Q1.out W hSW) Try.underlying34 rfl (by rw [Cur.len]; exact Try.info34) (hK _ _ ⟨rfl, hSW⟩)
                    | 4, _ =>
                      intro aq W hSW hf
                      have v212 : aq.tmps[212]? = some (.bool false) := hf.val 2 212 (by kernel_rfl) rfl
                      have v213 : aq.tmps[213]? = some (x.val) := hf.val 3 213 (by kernel_rfl) rfl
                      clear hf
                      refine wpOp_flow rfl (wanted_of rfl rfl v212) (fun Kq hK => ?_)
                      go_simp
                      refine (told_any x _).mono ?_
                      rintro e w19 ⟨rfl, B19⟩
                      exact hK _ _ ⟨rfl, hSW.trans (B19.mono hSW.size)⟩
                    | 5, _ =>
                      intro aq W hSW hf
                      have v8 : aq.tmps[8]? = some (.pointer (some ⟨d, 0, none⟩)) := (hf.at_base 8 (by kernel_rfl)).trans rfl
                      have v212 : aq.tmps[212]? = some (.bool false) := hf.val 2 212 (by kernel_rfl) rfl
                      clear hf
                      refine wpOp_flow rfl (wanted_of rfl rfl v212) (fun Kq hK => ?_)
                      go_simp
                      exact hK _ _ ⟨rfl, hSW⟩
                    | 6, _ =>
                      intro aq W hSW hf
                      have v212 : aq.tmps[212]? = some (.bool false) := hf.val 2 212 (by kernel_rfl) rfl
                      have v215 : aq.tmps[215]? = some (.pointer (some ⟨d, 0, none⟩)) := hf.val 5 215 (by kernel_rfl) rfl
                      clear hf
                      refine wpOp_flow rfl (wanted_of rfl rfl v212) (fun Kq hK => ?_)
                      go_simp
                      exact hK _ _ ⟨rfl, hSW⟩
                    | 7, _ =>
                      intro aq W hSW hf
                      have v212 : aq.tmps[212]? = some (.bool false) := hf.val 2 212 (by kernel_rfl) rfl
                      have v216 : aq.tmps[216]? = some (.pointer (some ⟨d, 0, none⟩)) := hf.val 6 216 (by kernel_rfl) rfl
                      clear hf
                      refine wpOp_flow rfl (wanted_of rfl rfl v212) (fun Kq hK => ?_)
                      go_simp
                      exact hK _ _ ⟨rfl, hSW⟩
                    | 8, _ =>
                      intro aq W hSW hf
                      have v212 : aq.tmps[212]? = some (.bool false) := hf.val 2 212 (by kernel_rfl) rfl
                      have v217 : aq.tmps[217]? = some (.pointer (some ⟨d, 3, none⟩)) := hf.val 7 217 (by kernel_rfl) rfl
                      clear hf
                      refine wpOp_flow rfl (wanted_of rfl rfl v212) (fun Kq hK => ?_)
                      have ck := C3.out W (H9.out.trans (hSW.mono H9.out.size))
                      go_simp
                      exact hK _ _ ⟨rfl, hSW⟩
                    | 9, _ =>
                      intro aq W hSW hf
                      have v24 : aq.tmps[24]? = some (.int .i64 (m : Int)) := (hf.at_base 24 (by kernel_rfl)).trans rfl
                      have v212 : aq.tmps[212]? = some (.bool false) := hf.val 2 212 (by kernel_rfl) rfl
                      clear hf
                      refine wpOp_flow rfl (wanted_of rfl rfl v212) (fun Kq hK => ?_)
                      go_simp
                      exact hK _ _ ⟨rfl, hSW⟩
                    | 10, _ =>
                      intro aq W hSW hf
                      have v212 : aq.tmps[212]? = some (.bool false) := hf.val 2 212 (by kernel_rfl) rfl
                      have v218 : aq.tmps[218]? = some (.slice (some ⟨g2, o2, none⟩) L.length dn) := hf.val 8 218 (by kernel_rfl) rfl
                      have v219 : aq.tmps[219]? = some (.int .i64 (m : Int)) := hf.val 9 219 (by kernel_rfl) rfl
                      clear hf
                      refine wpOp_flow rfl (wanted_of rfl rfl v212) (fun Kq hK => ?_)
                      go_simp
                      exact hK _ _ ⟨rfl, hSW⟩
                    | 11, _ =>
                      intro aq W hSW hf
                      have v212 : aq.tmps[212]? = some (.bool false) := hf.val 2 212 (by kernel_rfl) rfl
                      have v220 : aq.tmps[220]? = some (.pointer (some ⟨g2, o2 + m * 16, none⟩)) := hf.val 10 220 (by kernel_rfl) rfl
                      clear hf
                      refine wpOp_flow rfl (wanted_of rfl rfl v212) (fun Kq hK => ?_)
                      refine wp_load_mid 53 (.tmp 220) rfl g2 (o2 + m * 16) (eval_of v220) y.cells _ (Q2.out W (H9.out.trans (hSW.mono H9.out.size))) Try.underlying53 rfl (Try.info53c y) (hK _ _ ⟨rfl, hSW⟩)
                    | 12, _ =>
                      intro aq W hSW hf
                      have v212 : aq.tmps[212]? = some (.bool false) := hf.val 2 212 (by kernel_rfl) rfl
                      have v214 : aq.tmps[214]? = some (x.val) := hf.val 4 214 (by kernel_rfl) rfl
                      have v221 : aq.tmps[221]? = some (y.val) := hf.val 11 221 (by kernel_rfl) rfl
                      clear hf
                      refine wpOp_flow rfl (wanted_of rfl rfl v212) (fun Kq hK => ?_)
                      go_simp
                      refine (csame_twin x y _ (QT.out W (H9.out.trans (hSW.mono H9.out.size)))).mono ?_
                      rintro e w19 ⟨rfl, B19⟩
                      exact hK _ _ ⟨rfl, hSW.trans (B19.mono hSW.size)⟩
                    | 13, _ =>
                      intro aq W hSW hf
                      have v212 : aq.tmps[212]? = some (.bool false) := hf.val 2 212 (by kernel_rfl) rfl
                      have v222 : aq.tmps[222]? = some (.bool true) := hf.val 12 222 (by kernel_rfl) rfl
                      clear hf
                      refine wpOp_flow rfl (wanted_of rfl rfl v212) (fun Kq hK => ?_)
                      go_simp
                      exact hK _ _ ⟨rfl, hSW⟩
                    | 14, _ =>
                      intro aq W hSW hf
                      have v212 : aq.tmps[212]? = some (.bool false) := hf.val 2 212 (by kernel_rfl) rfl
                      have v223 : aq.tmps[223]? = some (.bool false) := hf.val 13 223 (by kernel_rfl) rfl
                      clear hf
                      refine wpOp_flow rfl (by rfl) (fun Kq hK => ?_)
                      go_simp
                      exact hK _ _ ⟨rfl, hSW⟩
                    | kq + 15, hk => exact absurd hk (by first | omega | (intro h; simp at h; omega))
                  · simp only [puts, Act.put, List.setIfInBounds_toArray, List.set_cons_zero, List.set_cons_succ]
                    have hb := hidp (H9.out.trans (hSW.mono H9.out.size))
                    clear hSW
                    go_wp2
                    go_roundw
                    case rel => exact ⟨m + 1, by omega, by go_num, hb.out⟩
                    case measure => simp [intOf]; omega
              · have l2 : ¬ (m : Int) < (L.length : Int) := by omega
                have hf : Hid (PR w b d n lf ((k + 1 : Nat) : Int) w7) := by
                  rw [show ((k + 1 : Nat) : Int) = (k : Int) + 1 by omega]
                  exact ⟨Af, Cf, L, next, HG.out.later HB7.out, HI.out, hx0, hxk⟩
                go_wp2
                go_roundw
                case rel => exact ⟨k + 1, by omega, by go_num, hf⟩
                case measure => simp [intOf]; omega
    · have l1 : ¬ (k : Int) < (len : Int) := by omega
      have hB : Below w.heap.size w w4 := by obtain ⟨_, _, _, _, g, _⟩ := HR.out; exact g.below
      have HB := hidp hB
      clear hB
      go_wp2_with (first | (go_at_call 12; refine (awake_any _).mono ?_; rintro e w6 ⟨rfl, B6⟩))
      go_ret
      exact ⟨rfl, HB.out.trans (B6.mono HB.out.size)⟩
end Go.Proofs.Ytkmhdffkganhaaa
