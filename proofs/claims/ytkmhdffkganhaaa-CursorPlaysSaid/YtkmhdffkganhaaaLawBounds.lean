/- The law CursorBounds answers true, whatever the acts. -/
import Derived.Test.YtkmhdffkganhaaaLBA
import Derived.Test.YtkmhdffkganhaaaRowk2
import Derived.Deep.CutBlock
namespace Go.Proofs.Ytkmhdffkganhaaa
open Go.RowKit

def Cur.qcells (c : Cur) : List Value := [.int .i64 c.kind, .int .i64 c.mode, .int .u32 c.pa, .int .i64 c.pl, .int .i64 c.tab, .int .i64 c.peer, .string c.rx, .slice c.ca c.cl c.cc, .int .i64 c.cur, .bool c.out]
theorem Cur.qlen (c : Cur) : c.qcells.length = 10 := rfl
theorem range_sub {w : World} {g o k n : Nat} {cs sub : List Value} (h : w.rangeAt g o cs) (hs : sub = (cs.drop k).take n) : w.rangeAt g (o + k) sub := fun j v hv => by
  rw [Nat.add_assoc]
  refine h (k + j) v ?_
  rw [hs, List.getElem?_take] at hv
  split at hv
  · rw [List.getElem?_drop] at hv; exact hv
  · cases hv
def SomeBool (e : Ending) (p : Prop) : Prop := ∃ x : Bool, e = .returned (.bool x) ∧ (x = true → p)
theorem Try.info32 : (Try.prog.info? 32).map (·.size) = some 10 := by kernel_rfl
theorem Try.info44 : (Try.prog.info? 44).map (·.size) = some 21 := by kernel_rfl

theorem few32 (c : Cur) (w : World) : Calls Try.prog 32 #[.agg c.qcells.toArray] w fun e w' => SomeBool e (c.cl ≤ 20) ∧ Below w.heap.size w w' := by
  unfold Cur.qcells
  by_cases h : c.rx.size ≤ 300
  · by_cases h2 : c.cl ≤ 20
    · go_enter Try.func32, Try.ntmps32
      go_wp2
      go_ret
      exact ⟨⟨_, rfl, fun _ => h2⟩, by go_grown⟩
    · go_enter Try.func32, Try.ntmps32
      go_wp2
      go_ret
      exact ⟨⟨false, by first | rfl | (simp; done) | (simp; omega), fun h => by cases h⟩, by go_grown⟩
  · go_enter Try.func32, Try.ntmps32
    go_wp2
    go_ret
    exact ⟨⟨false, by first | rfl | (simp; done) | (simp; omega), fun h => by cases h⟩, by go_grown⟩

set_option maxHeartbeats 2000000 in
theorem few_any (a0 : Option Addr) (len cap : Nat) (A : Nat → ActC) (X : Nat → List Value) (w : World) (hA : ActsC w a0 len A X) :
    Calls Try.prog 13 #[.slice a0 len cap] w fun e w' => SomeBool e (len ≤ 60 ∧ ∀ i, i < len → (A i).c.cl ≤ 20) ∧ Below w.heap.size w w' := by
  have HA := hidp hA
  clear hA
  by_cases h60 : 60 < len
  · go_enter Try.func13, Try.ntmps13
    go_wp2
    go_ret
    exact ⟨⟨_, rfl, fun h => by cases h⟩, Below.refl _ _⟩
  · go_enter Try.func13, Try.ntmps13
    go_wp2
    go_loopw [3] (fun i wr => ∃ j : Nat, j ≤ len ∧ i = .int .i64 j ∧ Hid (∀ i, i < j → (A i).c.cl ≤ 20) ∧ Below w.heap.size w wr) (fun i _ => len - (intOf i).toNat)
    case atStart => exact ⟨0, by omega, rfl, fun i h => absurd h (by omega), Below.refl _ _⟩
    case round =>
      obtain ⟨j, hj, rfl, HJ, hB⟩ := hrel
      by_cases hlt : j < len
      · obtain ⟨g, o, rfl, hc⟩ := HA.out (by omega)
        have hr : w.rangeAt g (o + j * 21 + 1 + 3) (A j).c.qcells := range_sub (n := 10) (k := 3) (range_sub (n := 16) (k := 1) (hc j hlt).1 rfl) rfl
        have HQ : Hid (wr.rangeAt g (o + j * 21 + 1 + 3) (A j).c.qcells) := fun i v hv => below_cell hB (Nat.le_refl _) _ _ (hr i v hv)
        have l1 : (j : Int) < (len : Int) := by omega
        obtain ⟨c, hcA⟩ : ∃ c, c = (A j).c := ⟨_, rfl⟩
        rw [← hcA] at HQ
        have HC := hidp hcA
        clear hc hr hcA
        go_wp2_with (first
          | (with_reducible refine wpList_load_mid rfl 32 (.tmp 17) rfl g (o + j * 21 + 1 + 3) rfl c.qcells _ HQ.out Try.underlying32 rfl (by rw [Cur.qlen]; exact Try.info32) ?_)
          | (go_at_call 32; refine (few32 c _).mono ?_; rintro e w1 ⟨⟨x, rfl, hx⟩, hB1⟩; have HB1 := hidp (hB.trans (hB1.mono hB.size)); have HX := hidp hx; clear hB1 hx; cases x))
        · go_ret
          exact ⟨⟨false, rfl, fun h => by cases h⟩, HB1.out⟩
        · go_roundw
          case rel => exact ⟨j + 1, by omega, by go_num, fun i hi => by
            by_cases hij : i = j
            · subst hij; rw [← HC.out]; first | exact HX.out rfl | exact HX.out trivial
            · exact HJ.out i (by omega), HB1.out⟩
          case measure => simp [intOf]; omega
      · have l1 : ¬ (j : Int) < (len : Int) := by omega
        go_wp2
        go_ret
        exact ⟨⟨true, rfl, fun _ => ⟨by omega, fun i hi => HJ.out i (by omega)⟩⟩, hB⟩

/-- what a round of the law carries -/
def BRel (w : World) (b : Nat) (n life next k : Int) (wr : World) : Prop := (∃ v L, TabIs wr w.heap.size b v L n life next ∧ BTab L n next k) ∧ Below w.heap.size w wr
theorem BRel.later {w : World} {b : Nat} {n life next k : Int} {x y : World} (h : BRel w b n life next k x) (hB : Below x.heap.size x y) : BRel w b n life next k y := by
  obtain ⟨⟨v, L, T, I⟩, B⟩ := h
  exact ⟨⟨v, L, T.below hB (Nat.le_refl _), I⟩, B.trans (hB.mono B.size)⟩
theorem ActC.len (a : ActC) : a.cells.length = 21 := rfl
theorem ActC.all_one (a : ActC) : a.cells.toArray.all (·.oneCell') = true := by
  rw [Array.all_eq_true_iff_forall_mem]
  intro u hu
  have hu : u ∈ a.cells := by simpa using hu
  rcases List.mem_cons.1 hu with rfl | hu
  · rfl
  · rcases List.mem_append.1 hu with hu | hu
    · exact a.c.one u hu
    · simp only [List.mem_cons, List.not_mem_nil, or_false] at hu
      rcases hu with rfl | rfl | rfl | rfl <;> rfl

set_option maxRecDepth 100000 in
set_option maxHeartbeats 8000000 in
theorem bounds_any (most : Nat) (hmost : most ≤ 255) (life : Int) (a0 : Option Addr) (len cap : Nat) (A : Nat → ActC) (X : Nat → List Value) (w : World) (hA : ActsC w a0 len A X) :
    Calls Try.prog 4 #[.int .u8 most, .int .i64 life, .slice a0 len cap] w fun e w' => e = .returned (.bool true) ∧ Below w.heap.size w w' := by
  have HA := hidp hA
  clear hA
  obtain ⟨n, hn⟩ : ∃ n : Nat, n = most % 9 := ⟨_, rfl⟩
  have hn8 : n ≤ 8 := by omega
  have HN : Hid ((most : Int) % 9 = (n : Int)) := by show _ = _; omega
  clear hn
  go_enter Try.func4, Try.ntmps4
  go_wp2_with fail
  refine (few_any a0 len cap A X w HA.out).mono ?_
  rintro e w1 ⟨⟨few, rfl, hfew⟩, hB1⟩
  cases few
  · go_wp2_with (first | (go_at_call 12; refine (awake_any _).mono ?_; rintro e w6 ⟨rfl, B6⟩))
    go_ret
    exact ⟨rfl, hB1.trans (B6.mono hB1.size)⟩
  obtain ⟨h60, hcl⟩ := hfew rfl
  have HCL := hidp hcl
  clear hfew hcl
  go_wp2_with fail
  rw [HN.out]
  refine (new_any n life w1).mono ?_
  rintro e w2 ⟨b, rfl, T2, hB2⟩
  rw [show capM n = n by unfold capM; rw [if_neg (by omega), if_neg (by omega)]] at T2
  have hbw : w.heap.size ≤ b := by have := T2.hb; have := hB1.size; omega
  have R0 : Hid (BRel w b n (capL life) 0 0 w2) := ⟨⟨_, [], ⟨T2.blk, ownsRow_weaken T2.own hB1.size, hbw⟩, ⟨by simp, by omega, List.Pairwise.nil, by simp, by simp⟩⟩, hB1.trans (hB2.mono hB1.size)⟩
  clear T2 hB2 hB1 HN
  generalize capL life = lf at R0
  go_wp2
  go_loopw [9, 10] (fun l i wr => ∃ (k : Nat) (next : Int), k ≤ len ∧ i = .int .i64 k ∧ l = .int .i64 next ∧ 0 ≤ next ∧ next ≤ k ∧ Hid (BRel w b n lf next k wr)) (fun _ i _ => len - (intOf i).toNat)
  case atStart => exact ⟨0, 0, by omega, rfl, rfl, by omega, by omega, R0⟩
  case round =>
    obtain ⟨k, next, hk, rfl, rfl, hx0, hxk, HR⟩ := hrel
    clear R0
    by_cases hlt : k < len
    · obtain ⟨g, o, rfl, hc⟩ := HA.out (by omega)
      obtain ⟨hr, hS, hca, hkd⟩ := hc k hlt
      have hcl := HCL.out k hlt
      have l1 : (k : Int) < (len : Int) := by omega
      have HJ : Hid (wr.rangeAt g (o + k * 21) (A k).cells) := fun i v hv => below_cell HR.out.2 (Nat.le_refl _) _ _ (hr i v hv)
      have HS : Hid (SrcV wr (A k).c.ca (A k).c.cl (X k)) := hS.below HR.out.2
      have hcb : ∀ ad, (A k).c.ca = some ad → 0 < (A k).c.cl → ad.block ≠ b := by
        intro ad had hp e
        obtain ⟨ad', e1, h2⟩ := hS.2.2 hp
        rw [had] at e1; cases e1
        have hl0 : 0 < (X k).length := by rw [hS.1]; exact hp
        have := World.block_lt_of_cell? w _ (h2 0 _ (List.getElem?_eq_getElem hl0))
        rw [add_block] at this
        omega
      have HCA := hidp (And.intro hca hcb)
      obtain ⟨a, hak⟩ : ∃ a, a = A k := ⟨_, rfl⟩
      rw [← hak] at HJ HS HCA hcl hkd
      generalize X k = xs at HS
      clear hc hr hS hca hcb hak
      go_upto_region 10 with (first
        | (with_reducible refine wpList_load_mid rfl 44 (.tmp 36) rfl g (o + k * 21) rfl a.cells _ HJ.out Try.underlying44 rfl (by rw [ActC.len]; exact Try.info44) ?_)
        | (with_reducible refine wpList_store_row rfl 44 (.tmp 11) (.tmp 37) rfl wr.heap.size a.cells.toArray rfl rfl 44 _ (heap_alloc_new wr _) (by rw [List.size_toArray, ActC.len]; exact Try.info44) rfl a.all_one ?_
           rw [World.setRow_alloc_new]
           have B3 := (Below.refl wr.heap.size wr).alloc (Nat.le_refl _) (.cells a.cells.toArray 44)
           have HR3 := hidp (HR.out.later B3)
           have HS3 := hidp (HS.out.below B3)
           have hq3 := heap_alloc_new wr (.cells a.cells.toArray 44)
           generalize wr.alloc (.cells a.cells.toArray 44) = w3 at *
           clear B3))
      have q0 : w3.cell? ⟨wr.heap.size, 0, none⟩ = some (.int .u8 a.kind) := cellOf hq3 0 rfl
      have HQ3 := hidp hq3
      clear hq3
      go_upto_block 2 with (fail)
      have hw44 : ∀ W : World, W.heap[wr.heap.size]? = some (.cells a.cells.toArray 44 (0, 0)) → W.rangeAt wr.heap.size 1 a.c.cells ∧ W.cell? ⟨wr.heap.size, 2, none⟩ = some (.int .i64 a.c.owner) ∧ W.cell? ⟨wr.heap.size, 17, none⟩ = some (.int .i64 a.owner) ∧ W.cell? ⟨wr.heap.size, 18, none⟩ = some (.int .i64 a.id) := by
        intro W hW
        have hr0 : W.rangeAt wr.heap.size 0 a.cells := fun i v hv => by rw [Nat.zero_add]; exact cellOf hW i (by simpa using hv)
        have hr1 := range_sub (n := 16) (k := 1) (sub := a.c.cells) hr0 rfl
        rw [Nat.zero_add] at hr1
        exact ⟨hr1, cellOf hW 2 rfl, cellOf hW 17 rfl, cellOf hW 18 rfl⟩
      have HW := hidp hw44
      clear hw44
      go_cut [9, 12, 13, 15, 17, 40, 43, 96, 104] (fun l _ _ _ _ _ _ _ _ wx => ∃ next' : Int, l = .int .i64 next' ∧ 0 ≤ next' ∧ next' ≤ (k : Int) + 1 ∧ Hid (BRel w b n lf next' ((k : Int) + 1) wx))
      case first =>
        obtain ⟨⟨v, L, T, I⟩, B⟩ := HR3.out
        have hqv : ∀ g, v.ownBlock = some g → g ≠ wr.heap.size := by
          intro gg hg e
          obtain ⟨_, cc, hcc⟩ := ownsRow_block T.own gg hg
          have := HQ3.out; rw [← e, hcc] at this; cases this
        have hqb : wr.heap.size ≠ b := by
          intro e
          have := T.blk; rw [← e, HQ3.out] at this; cases this
        have hL8 : L.length ≤ 8 := by have := I.len; omega
        obtain ⟨r1, z2, z17, z18⟩ := HW.out w3 HQ3.out
        have HI := hidp I
        have HT := hidp T
        have HB := hidp B
        have hkr : (0 : Int) ≤ k := by omega
        rcases (by omega : (a.kind % 6 = 0 ∨ a.kind % 6 = 1 ∨ a.kind % 6 = 2) ∨ a.kind % 6 = 3 ∨ a.kind % 6 = 4 ∨ a.kind % 6 = 5) with h6 | h6 | h6 | h6
        · have HR1 := hidp r1
          clear r1 z2 z17 z18 T I B
          rcases h6 with h6 | h6 | h6
          all_goals
            go_wp2_with (first
              | (with_reducible refine wpList_load_mid rfl 34 (.tmp 49) rfl wr.heap.size 1 rfl a.c.cells _ HR1.out Try.underlying34 rfl (by rw [Cur.len]; exact Try.info34) ?_))
            refine (open_any w.heap.size b v L n lf next a.c xs w3 HT.out (by omega) (by omega) HS3.out (by omega) HCA.out.1 HCA.out.2).mono ?_
            rintro e w4 ⟨a', cc', o4, rfl, hres, -, F4⟩
            have B4 := HT.out.frame F4 HB.out HB.out.size
            have hnew : ∃ (L4 : List Cur) (v4 : Value) (ga : Option Addr) (gl gc : Nat), o4 = .slice ga gl gc ∧ gl ≤ 1 ∧ TabIs w4 w.heap.size b v4 L4 n lf (next + 1) ∧ BOpen L4 n (next + 1) k a.c.owner := by
              rcases hres with ⟨hl, rfl, v4, T4⟩ | ⟨hl, hO, v4, T4⟩
              · exact ⟨_, v4, none, 0, 0, rfl, by omega, T4, HI.out.fits hkr _ rfl rfl hl⟩
              · obtain ⟨h1, h2⟩ := HI.out.over hkr (a.c.fresh (next + 1) a' cc') rfl rfl hl
                obtain ⟨ga, gc, ho, -⟩ := hO.row
                exact ⟨_, v4, ga, _, gc, ho, by rw [h2]; omega, T4, h1⟩
            obtain ⟨L4, v4, ga, gl, gc, rfl, hgl, T4, O4⟩ := hnew
            have hq4 : w4.heap[wr.heap.size]? = some (.cells a.cells.toArray 44 (0, 0)) := by
              rw [F4.block _ (ltOf HQ3.out) hqb (fun e => hqv _ e rfl)]; exact HQ3.out
            have HT4 := hidp (And.intro T4 (And.intro O4 B4))
            have HQ4 := hidp hq4
            obtain ⟨-, y2, -, -⟩ := HW.out w4 hq4
            have hid1 : ¬ (next + 1 ≤ next) := by omega
            have hgl1 : ¬ 1 < gl := by omega
            have hL4 : L4.length ≤ 1000 := by have := O4.tab.len; omega
            have hwr : IntKind.i64.wrap (next + 1) = next + 1 := IntWalk.i64_in _ (by omega)
            clear hres F4 B4 T4 O4 hq4
            go_wp2_with fail
            refine (get_any w.heap.size b v4 L4 n lf (next + 1) a.c.owner (next + 1) w4 HT4.out.1 hL4).mono ?_
            rintro e w5 ⟨hres, B5⟩
            have HT5 := hidp (And.intro (HT4.out.1.below B5 (Nat.le_refl _)) (And.intro HT4.out.2.1 (HT4.out.2.2.trans (B5.mono HT4.out.2.2.size))))
            have hq5 := heap_below B5 HQ4.out (ltOf HQ4.out)
            have HQ5 := hidp hq5
            obtain ⟨-, y5, -, -⟩ := HW.out w5 hq5
            have hne : wrap64 (a.c.owner - 1) ≠ a.c.owner := by unfold wrap64; omega
            have HNE := hidp hne
            clear hne B5 hq5
            by_cases hn0 : 0 < n
            · rcases hres with ⟨hi, -⟩ | ⟨j, hj, hi, rfl⟩
              · exact absurd hi (HT4.out.2.1.got (by omega))
              have hdid : L4[j].id = next + 1 := by
                have := idxC_spec hj hi
                unfold isAt at this
                rw [Bool.and_eq_true] at this
                simpa using this.1
              unfold Cur.val
              generalize L4[j] = d at hdid
              have HD := hidp hdid
              clear hdid
              go_wp2_with (first
                | (with_reducible refine wpList_store_row rfl 34 (.tmp 14) (.tmp 70) rfl w5.heap.size d.cells.toArray rfl rfl 34 _ (heap_alloc_new w5 _) (by rw [List.size_toArray, Cur.len]; exact Try.info34) rfl (all_one d) ?_
                   rw [World.setRow_alloc_new]
                   have p14 : (w5.alloc (.cells d.cells.toArray 34)).cell? ⟨w5.heap.size, 0, none⟩ = some (.int .i64 d.id) := cellOf (heap_alloc_new _ _) 0 rfl
                   rw [HD.out] at p14
                   have hB6 : Below w5.heap.size w5 (w5.alloc (.cells d.cells.toArray 34)) := (Below.refl _ _).alloc (Nat.le_refl _) _
                   have HB6 := hidp hB6
                   obtain ⟨-, y6, -, -⟩ := HW.out _ (heap_below hB6 HQ5.out (ltOf HQ5.out))
                   clear hB6
                   generalize w5.alloc (.cells d.cells.toArray 34) = w6 at p14 HB6 y6 ⊢))
              refine (get_any w.heap.size b v4 L4 n lf (next + 1) (wrap64 (a.c.owner - 1)) (next + 1) _ (HT5.out.1.below HB6.out (Nat.le_refl _)) hL4).mono ?_
              rintro e w7 ⟨(⟨-, rfl⟩ | ⟨j7, hj7, hi7, -⟩), B7⟩
              rotate_left
              · have := HT5.out.2.1.other HNE.out
                omega
              have HT7 := hidp (And.intro ((HT5.out.1.below HB6.out (Nat.le_refl _)).below B7 (Nat.le_refl _)) ((HT5.out.2.2.trans (HB6.out.mono HT5.out.2.2.size)).trans (B7.mono (Nat.le_trans HT5.out.2.2.size HB6.out.size))))
              clear B7
              go_wp2_with (first
                | (with_reducible refine wpList_store_row rfl 34 (.tmp 16) (.tmp 93) rfl w7.heap.size zarr34 rfl rfl 34 _ (heap_alloc_new w7 _) Try.info34z rfl zarr_one ?_
                   rw [World.setRow_alloc_new]
                   have hB8 : Below w7.heap.size w7 (w7.alloc (.cells zarr34 34)) := (Below.refl _ _).alloc (Nat.le_refl _) _
                   have HT8 : Hid (BRel w b n lf (next + 1) ((k : Int) + 1) (w7.alloc (.cells zarr34 34))) := ⟨⟨v4, L4, HT7.out.1.below hB8 (Nat.le_refl _), HT5.out.2.1.tab.mono (by omega)⟩, HT7.out.2.trans (hB8.mono HT7.out.2.size)⟩
                   clear hB8
                   generalize w7.alloc (.cells zarr34 34) = w8 at HT8 ⊢))
              go_meet
              exact ⟨next + 1, rfl, by omega, by omega, HT8⟩
            · have hL0 := HT5.out.2.1.none (by omega)
              rcases hres with ⟨hi, rfl⟩ | ⟨j, hj, -⟩
              rotate_left
              · rw [hL0] at hj; exact absurd hj (by simp)
              go_wp2_with (first
                | (with_reducible refine wpList_store_row rfl 34 (.tmp 14) (.tmp 70) rfl w5.heap.size zarr34 rfl rfl 34 _ (heap_alloc_new w5 _) Try.info34z rfl zarr_one ?_
                   rw [World.setRow_alloc_new]
                   have hB6 : Below w5.heap.size w5 (w5.alloc (.cells zarr34 34)) := (Below.refl _ _).alloc (Nat.le_refl _) _
                   have HB6 := hidp hB6
                   obtain ⟨-, y6, -, -⟩ := HW.out _ (heap_below hB6 HQ5.out (ltOf HQ5.out))
                   clear hB6
                   generalize w5.alloc (.cells zarr34 34) = w6 at HB6 y6 ⊢))
              refine (get_any w.heap.size b v4 L4 n lf (next + 1) (wrap64 (a.c.owner - 1)) (next + 1) _ (HT5.out.1.below HB6.out (Nat.le_refl _)) hL4).mono ?_
              rintro e w7 ⟨(⟨-, rfl⟩ | ⟨j7, hj7, hi7, -⟩), B7⟩
              rotate_left
              · have := HT5.out.2.1.other HNE.out
                omega
              have HT7 := hidp (And.intro ((HT5.out.1.below HB6.out (Nat.le_refl _)).below B7 (Nat.le_refl _)) ((HT5.out.2.2.trans (HB6.out.mono HT5.out.2.2.size)).trans (B7.mono (Nat.le_trans HT5.out.2.2.size HB6.out.size))))
              clear B7
              go_wp2_with (first
                | (with_reducible refine wpList_store_row rfl 34 (.tmp 16) (.tmp 93) rfl w7.heap.size zarr34 rfl rfl 34 _ (heap_alloc_new w7 _) Try.info34z rfl zarr_one ?_
                   rw [World.setRow_alloc_new]
                   have hB8 : Below w7.heap.size w7 (w7.alloc (.cells zarr34 34)) := (Below.refl _ _).alloc (Nat.le_refl _) _
                   have HT8 : Hid (BRel w b n lf (next + 1) ((k : Int) + 1) (w7.alloc (.cells zarr34 34))) := ⟨⟨v4, L4, HT7.out.1.below hB8 (Nat.le_refl _), HT5.out.2.1.tab.mono (by omega)⟩, HT7.out.2.trans (hB8.mono HT7.out.2.size)⟩
                   clear hB8
                   generalize w7.alloc (.cells zarr34 34) = w8 at HT8 ⊢))
              go_meet
              exact ⟨next + 1, rfl, by omega, by omega, HT8⟩
        · clear r1 z2 HW HQ3
          go_wp2_with fail
          refine (close_any w.heap.size b v L n lf next a.owner a.id w3 T (by omega)).mono ?_
          rintro e w4 ⟨(⟨-, rfl, v4, T4⟩ | ⟨j4, hj4, -, rfl, v4, T4⟩), F4⟩
          · have R4 : Hid (BRel w b n lf next ((k : Int) + 1) w4) := ⟨⟨v4, _, T4, I.mono (by omega)⟩, B.trans (F4.below B.size hbw)⟩
            clear T4 F4 T I B
            go_wp2
            go_meet
            exact ⟨next, rfl, by omega, by omega, R4⟩
          · have R4 : Hid (BRel w b n lf next ((k : Int) + 1) w4) := ⟨⟨v4, _, T4, (I.filter _).mono (by omega)⟩, B.trans (F4.below B.size hbw)⟩
            unfold Cur.val
            generalize L[j4] = d4
            clear T4 F4 T I B
            go_wp2
            go_meet
            exact ⟨next, rfl, by omega, by omega, R4⟩
        · clear r1 z2 z18 HW HQ3
          go_wp2_with fail
          refine (leave_any w.heap.size b v L n lf next a.owner w3 T (by omega)).mono ?_
          rintro e w4 ⟨o4, rfl, -, ⟨v4, T4⟩, F4⟩
          have R4 : Hid (BRel w b n lf next ((k : Int) + 1) w4) := ⟨⟨v4, _, T4, (I.filter _).mono (by omega)⟩, B.trans (F4.below B.size hbw)⟩
          clear T4 F4 T I B
          go_wp2
          go_meet
          exact ⟨next, rfl, by omega, by omega, R4⟩
        · clear r1 z2 z17 z18 HW HQ3
          go_wp2_with fail
          refine (tick_any w.heap.size b v L n lf next w3 T (by omega) (fun y hy => by have := I.ages y hy; omega)).mono ?_
          rintro e w4 ⟨o4, rfl, -, ⟨v4, T4⟩, F4⟩
          have R4 : Hid (BRel w b n lf next ((k : Int) + 1) w4) := ⟨⟨v4, _, T4, I.older.filter _⟩, T.frame F4 B B.size⟩
          clear T4 F4 T I B
          go_wp2
          go_meet
          exact ⟨next, rfl, by omega, by omega, R4⟩
      case rest =>
        obtain ⟨next', rfl, hn0, hn1, HRc⟩ := hcut
        obtain ⟨⟨v5, L5, T5, I5⟩, B5⟩ := HRc.out
        have hl5 := I5.len
        have HT5 := hidp T5
        have hl6 : ¬ (n : Int) < (L5.length : Int) := by omega
        clear T5 I5 B5
        go_wp2_with (first | (go_at_call 16; refine (len_any w.heap.size b v5 L5 n lf next' _ HT5.out).mono ?_; rintro e w6 ⟨rfl, rfl⟩))
        go_roundw
        case rel => exact ⟨k + 1, next', by omega, by go_num, rfl, hn0, by omega, HRc⟩
        case measure => simp [intOf]; omega
    · have l1 : ¬ (k : Int) < (len : Int) := by omega
      go_wp2_with (first | (go_at_call 12; refine (awake_any _).mono ?_; rintro e w6 ⟨rfl, B6⟩))
      go_ret
      exact ⟨rfl, HR.out.2.trans (B6.mono HR.out.2.size)⟩
end Go.Proofs.Ytkmhdffkganhaaa
