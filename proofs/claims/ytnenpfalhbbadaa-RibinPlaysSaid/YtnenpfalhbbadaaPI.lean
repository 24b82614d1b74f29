/- A peer's routes: Get. -/
import Derived.Test.YtnenpfalhbbadaaPH
import Derived.Test.YtnenpfalhbbadaaPD
import Derived.Test.YtnenpfalhbbadaaFlowG
namespace Go.Proofs.Ytnenpfalhbbadaa
open Go.RowKit

/-- what a tree says of a prefix -/
def getA (A : Ab) (p : Pf) : Att × Bool := match findA A p with
  | .node _ true v _ _ => (v, true)
  | _ => (att0, false)
theorem getT_ab (t : Tr) (p : Pf) : getT t p = getA t.ab p := by
  unfold getT getA
  rw [← findT_ab]
  cases findT t p with
  | nil => rfl
  | node b q h v l r => cases h <;> rfl
structure GJ (wA w : World) (p : Pf) (A : Ab) (n : Int) (a : Att) (k1 k6 : Bool) (g : Option Addr) (W : World) : Prop where
  bel : Below w.heap.size w W
  box : W.heap[w.heap.size]? = some (.cells #[.int .u32 (p.a : Int), .int .i64 p.l] 44 (0, 0))
  res : W.heap[w.heap.size + 1]? = some (.cells (if k6 = true then a.cells.toArray else att0.cells.toArray) 37 (0, 0))
  tab : k1 = true → k6 = false → ∃ (b : Nat) (t : Tr), g = some ⟨b, 0, none⟩ ∧ TrieAt wA W b t n ∧ t.ab = A
theorem GJ.below {wA w W W' : World} {p : Pf} {A : Ab} {n : Int} {a : Att} {k1 k6 : Bool} {g : Option Addr} (h : GJ wA w p A n a k1 k6 g W) (hB : Below W.heap.size W W') : GJ wA w p A n a k1 k6 g W' :=
  ⟨h.bel.trans (hB.mono h.bel.size), heap_below hB h.box (ltOf h.box), heap_below hB h.res (ltOf h.res), fun hk hk6 => by obtain ⟨b, t, h1, h2, h3⟩ := h.tab hk hk6; exact ⟨b, t, h1, h2.below hB, h3⟩⟩
theorem lay_att (a b : Att) : lay a.cells.toArray 0 b.cells = b.cells.toArray := by kernel_rfl

set_option maxRecDepth 100000 in
set_option maxHeartbeats 4000000 in
theorem iget_any (wA : World) (x : Option Addr) (A : Ab) (n lim : Int) (p : Pf) (hp : p.ok) (w : World) (h : InAt wA w x A n lim) : Calls Try.prog 14 #[.pointer x, p.val] w fun e w' => e = .returned (.tuple #[(getA A p).1.val, .bool (getA A p).2]) ∧ Below w.heap.size w w' := by
  obtain ⟨a, ok, hgt⟩ : ∃ a ok, getA A p = (a, ok) := ⟨_, _, rfl⟩
  have HG := hidp (fun (b : Nat) (t : Tr) (ht : t.ab = A) W h => by have := tget_any wA b t n p hp W h; rw [getT_ab, ht, hgt] at this; exact this)
  have hav : a.val = .agg a.cells.toArray := rfl
  have hpv : p.val = .agg #[.int .u32 (p.a : Int), .int .i64 p.l] := rfl
  rw [hgt]
  rw [hpv] at HG ⊢
  simp only [hav] at HG ⊢
  have hia : Hid ((Try.prog.info? 37).map (·.size) = some a.cells.length) := Try.info37
  clear hav hpv hgt
  have hb := ((Below.refl w.heap.size w).alloc (Nat.le_refl _) (.cells #[.int .u32 (p.a : Int), .int .i64 p.l] 44)).alloc (by simp) (.cells att0.cells.toArray 37)
  have h0 : GJ wA w p A n a false false none ((w.alloc (.cells #[.int .u32 (p.a : Int), .int .i64 p.l] 44)).alloc (.cells att0.cells.toArray 37)) :=
    ⟨hb, heap_alloc_at (heap_alloc_new w _) _, heap_alloc_top _ _ _ (by simp), fun h => by cases h⟩
  have hin := h.below hb
  have hs : ((w.alloc (.cells #[.int .u32 (p.a : Int), .int .i64 p.l] 44)).alloc (.cells att0.cells.toArray 37)).heap.size = w.heap.size + 2 := by simp
  have HH := hidp h
  clear h hb
  go_enter Try.func14, Try.ntmps14
  go_upto_region 1 with (fail)
  change Code.wp Try.prog _ _ _ ((w.alloc (.cells #[.int .u32 (p.a : Int), .int .i64 p.l] 44)).alloc (.cells att0.cells.toArray 37))
  generalize (w.alloc (.cells #[.int .u32 (p.a : Int), .int .i64 p.l] 44)).alloc (.cells att0.cells.toArray 37) = w0 at *
  have HIN := hidp hin
  have HS := hidp hs
  have h0d := h0.below (Below.refl w0.heap.size w0).drew
  clear h0 hin hs
  refine wp_region_flowG (G := Option Addr) (fun g iqv => ([(.pointer x : Value), (.pointer g : Value), (.agg #[.int .u32 (p.a : Int), .int .i64 p.l] : Value), (.tuple #[.agg a.cells.toArray, .bool ok] : Value), (.agg a.cells.toArray : Value), (.bool ok : Value), (undef : Value), (.bool ok : Value)] : List Value).getD iqv undef) (fun d g W => GJ wA w p A n a (d 1) (d 6) g W ∧ (d 6 = false → InAt wA W x A n lim)) (none) (fun g => [(some 6, .pointer x), (some 7, .pointer g), (some 8, .agg #[.int .u32 (p.a : Int), .int .i64 p.l]), (some 9, .tuple #[.agg a.cells.toArray, .bool ok]), (some 10, .agg a.cells.toArray), (some 11, .bool ok), (none, undef), (some 5, .bool ok)]) (by kernel_rfl) (by kernel_rfl) ⟨h0d, fun _ => HIN.out.below (Below.refl _ _).drew⟩ (fun iq hiq => ?_) (fun g => by kernel_rfl) (fun d g W hall hJ => ?_)
  · match iq, hiq with
    | 0, _ =>
      intro d g aq W hdi hw hcl hJ hf
      have v0 : aq.tmps[0]? = some (.pointer x) := (hf.at_base 0 (by kernel_rfl)).trans rfl
      clear hf
      refine wpOp_flow rfl (by rfl) (fun Kq hK => ?_)
      go_simp
      exact hK _ _ ⟨g, rfl, hJ, fun _ _ => rfl⟩
    | 1, _ =>
      intro d g aq W hdi hw hcl hJ hf
      have v6 : aq.tmps[6]? = some (.pointer x) := hf.val 0 6 (by kernel_rfl) rfl
      clear hf
      refine wpOp_flow rfl (by rfl) (fun Kq hK => ?_)
      have h6 : d 6 = false := by
        cases h : d 6 with
        | false => rfl
        | true => exact absurd (hcl 3 (hcl 4 (hcl 6 h 4 (by kernel_rfl)) 3 (by kernel_rfl)) 1 (by kernel_rfl)) (by rw [hdi]; decide)
      go_simp
      refine (table_any wA x A n lim W (hJ.2 h6)).mono ?_
      rintro e w19 ⟨⟨b, t, rfl, h1, h2⟩, B19⟩
      have hJb := hJ.1.below B19
      exact hK _ _ ⟨some ⟨b, 0, none⟩, rfl, ⟨⟨hJb.bel, hJb.box, hJb.res, fun _ _ => ⟨b, t, rfl, h1, h2⟩⟩, fun h => (hJ.2 h).below B19⟩, (fun j hj => match j, hj with | 0, _ => rfl | 1, hj => absurd (hj.symm.trans hdi) (by decide) | 2, _ => rfl | 3, _ => rfl | 4, _ => rfl | 5, _ => rfl | 6, _ => rfl | 7, _ => rfl | _ + 8, _ => rfl)⟩
    | 2, _ =>
      intro d g aq W hdi hw hcl hJ hf
      have v3 : aq.tmps[3]? = some (.pointer (some ⟨w.heap.size, 0, none⟩)) := (hf.at_base 3 (by kernel_rfl)).trans rfl
      clear hf
      refine wpOp_flow rfl (by rfl) (fun Kq hK => ?_)
      have d0 := cellOf hJ.1.box 0 (v := .int .u32 (p.a : Int)) rfl
      have d1 := cellOf hJ.1.box 1 (v := .int .i64 p.l) rfl
      go_simp
      exact hK _ _ ⟨g, rfl, hJ, fun _ _ => rfl⟩
    | 3, _ =>
      intro d g aq W hdi hw hcl hJ hf
      have v7 : aq.tmps[7]? = some (.pointer g) := hf.val 1 7 (by kernel_rfl) rfl
      have v8 : aq.tmps[8]? = some (.agg #[.int .u32 (p.a : Int), .int .i64 p.l]) := hf.val 2 8 (by kernel_rfl) rfl
      clear hf
      refine wpOp_flow rfl (by rfl) (fun Kq hK => ?_)
      have h6 : d 6 = false := by
        cases h : d 6 with
        | false => rfl
        | true => exact absurd (hcl 4 (hcl 6 h 4 (by kernel_rfl)) 3 (by kernel_rfl)) (by rw [hdi]; decide)
      obtain ⟨b, t, rfl, h2, h3⟩ := hJ.1.tab (hw 1 (by kernel_rfl)) h6
      go_simp
      refine (HG.out b t h3 W h2).mono ?_
      rintro e w19 ⟨rfl, B19⟩
      exact hK _ _ ⟨some ⟨b, 0, none⟩, rfl, ⟨hJ.1.below B19, fun h => (hJ.2 h).below B19⟩, fun _ _ => rfl⟩
    | 4, _ =>
      intro d g aq W hdi hw hcl hJ hf
      have v9 : aq.tmps[9]? = some (.tuple #[.agg a.cells.toArray, .bool ok]) := hf.val 3 9 (by kernel_rfl) rfl
      clear hf
      refine wpOp_flow rfl (by rfl) (fun Kq hK => ?_)
      go_simp
      exact hK _ _ ⟨g, rfl, hJ, fun _ _ => rfl⟩
    | 5, _ =>
      intro d g aq W hdi hw hcl hJ hf
      have v9 : aq.tmps[9]? = some (.tuple #[.agg a.cells.toArray, .bool ok]) := hf.val 3 9 (by kernel_rfl) rfl
      clear hf
      refine wpOp_flow rfl (by rfl) (fun Kq hK => ?_)
      go_simp
      exact hK _ _ ⟨g, rfl, hJ, fun _ _ => rfl⟩
    | 6, _ =>
      intro d g aq W hdi hw hcl hJ hf
      have v4 : aq.tmps[4]? = some (.pointer (some ⟨w.heap.size + 1, 0, none⟩)) := (hf.at_base 4 (by kernel_rfl)).trans rfl
      have v10 : aq.tmps[10]? = some (.agg a.cells.toArray) := hf.val 4 10 (by kernel_rfl) rfl
      clear hf
      refine wpOp_flow rfl (by rfl) (fun Kq hK => ?_)
      have hr : W.heap[w.heap.size + 1]? = some (.cells att0.cells.toArray 37 (0, 0)) := by
        have h := hJ.1.res
        rw [hdi] at h
        exact h
      refine wp_store_mid 37 (.tmp 4) (.tmp 10) rfl (w.heap.size + 1) 0 a.cells.toArray (eval_of v4) (eval_of v10) (there_of hr 0 11 (by show 0 + 11 ≤ 11; decide)) hia.out (Att.all_one a) (hK _ _ ⟨g, rfl, ⟨⟨below_setCells (by omega) _ _ _ hJ.1.bel, ?_, ?_, fun _ h => by cases h⟩, fun h => by cases h⟩, fun _ _ => rfl⟩)
      · rw [heap_setCells_far (by omega)]; exact hJ.1.box
      · have := heap_setCells a.cells W _ 0 hr
        rw [lay_att] at this
        exact this
    | 7, _ =>
      intro d g aq W hdi hw hcl hJ hf
      have v11 : aq.tmps[11]? = some (.bool ok) := hf.val 5 11 (by kernel_rfl) rfl
      clear hf
      refine wpOp_flow rfl (by rfl) (fun Kq hK => ?_)
      go_simp
      exact hK _ _ ⟨g, rfl, hJ, fun _ _ => rfl⟩
    | kq + 8, hk => exact absurd hk (by first | omega | (intro h; simp at h; omega))
  · simp only [puts, Act.put, List.setIfInBounds_toArray, List.set_cons_zero, List.set_cons_succ]
    have hr : W.heap[w.heap.size + 1]? = some (.cells a.cells.toArray 37 (0, 0)) := by
      have h := hJ.1.res
      rw [hall 6 (by decide)] at h
      exact h
    have HR := hidp (And.intro hr hJ.1.bel)
    clear hr hJ hall
    go_wp2
    refine bodyPost_ret (results_att rfl _ _ (w.heap.size + 1) a.cells.toArray rfl rfl HR.out.1) rfl ?_
    exact ⟨rfl, HR.out.2⟩
end Go.Proofs.Ytnenpfalhbbadaa
