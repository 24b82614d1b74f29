/- Keys. -/
import Derived.Test.YtnenpfalhbbadaaQU
import Derived.Deep.DeepMust
namespace Go.Proofs.Ytnenpfalhbbadaa
open Go.RowKit

/-- the prefixes that have a route, as the tree holds them -/
def keysA : Ab → List Pf
  | .nil => []
  | .node q h _ l r => (if h = true then [q] else []) ++ (keysA l ++ keysA r)
def rootIn (p : Pf) : Ab → Prop
  | .nil => True
  | .node q _ _ _ _ => coversF p q = true
set_option maxRecDepth 100000 in
set_option maxHeartbeats 4000000 in
theorem below_any (wA : World) (t : Tr) (p : Pf) (hp : p.ok) (w : World) (h : t.at wA w) (hc : rootIn p t.ab) : Calls Try.prog 53 #[t.ptr, p.val] w fun e w' => e = .returned t.ptr ∧ Below w.heap.size w w' := by
  have hB := (Below.refl w.heap.size w).alloc (Nat.le_refl _) (.cells #[.int .u32 (p.a : Int), .int .i64 p.l] 44)
  have k0 := heap_alloc_new w (.cells #[.int .u32 (p.a : Int), .int .i64 p.l] 44)
  have H := hidp (h.below hB)
  have HB := hidp hB
  have K0 := hidp k0
  clear hB k0 h
  have hpv : p.val = .agg #[.int .u32 (p.a : Int), .int .i64 p.l] := rfl
  rw [hpv]
  go_enter Try.func53, Try.ntmps53
  go_wp2
  change Code.wp Try.prog _ _ _ (w.alloc (.cells #[.int .u32 (p.a : Int), .int .i64 p.l] 44))
  generalize w.alloc (.cells #[.int .u32 (p.a : Int), .int .i64 p.l] 44) = w1 at *
  go_loopw [0] (fun x wr => x = t.ptr ∧ wr = w1) (fun _ _ => 0)
  case atStart => exact ⟨rfl, rfl⟩
  case round =>
    obtain ⟨hx, rfl⟩ := hrel
    cases t with
    | nil =>
      have hx' : u0 = .pointer none := hx
      subst hx'
      clear hx H hc
      go_upto_region 1 with (fail)
      go_quiet (fail)
      go_wp2
      go_ret
      exact ⟨rfl, below_drewN HB.out _⟩
    | node b q hs vv l r =>
      have hx' : u0 = .pointer (some ⟨b, 0, none⟩) := hx
      subst hx'
      obtain ⟨hb, hq, hv, hl, hr⟩ := H.out
      have HQP := hidp (And.intro hq hp)
      have HCV := hidp (show coversF p q = true from hc)
      generalize l.ptr = vl at hb
      generalize r.ptr = vr at hb
      have c0 := cellOf hb 0 (v := .int .u32 (q.a : Int)) rfl
      have c1 := cellOf hb 1 (v := .int .i64 q.l) rfl
      have d0 := cellOf K0.out 0 (v := .int .u32 (p.a : Int)) rfl
      have d1 := cellOf K0.out 1 (v := .int .i64 p.l) rfl
      have C0 := hidp (show ∀ W, Below wr.heap.size wr W → W.cell? ⟨b, 0, none⟩ = some (.int .u32 (q.a : Int)) from fun W hW => below_cell hW (Nat.le_refl _) _ _ c0)
      have C1 := hidp (show ∀ W, Below wr.heap.size wr W → W.cell? ⟨b, 1, none⟩ = some (.int .i64 q.l) from fun W hW => below_cell hW (Nat.le_refl _) _ _ c1)
      have D0 := hidp (show ∀ W, Below wr.heap.size wr W → W.cell? ⟨w.heap.size, 0, none⟩ = some (.int .u32 (p.a : Int)) from fun W hW => below_cell hW (Nat.le_refl _) _ _ d0)
      have D1 := hidp (show ∀ W, Below wr.heap.size wr W → W.cell? ⟨w.heap.size, 1, none⟩ = some (.int .i64 p.l) from fun W hW => below_cell hW (Nat.le_refl _) _ _ d1)
      clear hb hq hv hl hr hc c0 c1 d0 d1 hx
      go_upto_region 1 with (fail)
      refine wp_region_flow2 (fun iqv => ([(.pointer (some ⟨b, 0, none⟩) : Value), (.bool true : Value), (.bool true : Value), (.agg #[.int .u32 (p.a : Int), .int .i64 p.l] : Value), (.pointer (some ⟨b, 0, none⟩) : Value), (.pointer (some ⟨b, 0, none⟩) : Value), (.pointer (some ⟨b, 0, none⟩) : Value), (.agg #[.int .u32 (q.a : Int), .int .i64 q.l] : Value), (.bool true : Value), (.bool false : Value), (.bool false : Value)] : List Value).getD iqv undef) [(some 5, .pointer (some ⟨b, 0, none⟩)), (some 6, .bool true), (some 7, .bool true), (some 8, .agg #[.int .u32 (p.a : Int), .int .i64 p.l]), (some 9, .pointer (some ⟨b, 0, none⟩)), (some 10, .pointer (some ⟨b, 0, none⟩)), (some 11, .pointer (some ⟨b, 0, none⟩)), (some 12, .agg #[.int .u32 (q.a : Int), .int .i64 q.l]), (some 13, .bool true), (some 14, .bool false), (some 15, .bool false)] (fun W : World => Below wr.heap.size wr W) (by kernel_rfl) (by kernel_rfl) ((Below.refl _ _).drew) (fun iq hiq => ?_) (by kernel_rfl) (fun W hSW => ?_)
      · match iq, hiq with
        | 0, _ =>
          intro aq W hSW hf
          have v0 : aq.tmps[0]? = some (.pointer (some ⟨b, 0, none⟩)) := (hf.at_base 0 (by kernel_rfl)).trans rfl
          clear hf
          refine wpOp_flow rfl (by rfl) (fun Kq hK => ?_)
          go_simp
          exact hK _ _ ⟨rfl, hSW⟩
        | 1, _ =>
          intro aq W hSW hf
          have v5 : aq.tmps[5]? = some (.pointer (some ⟨b, 0, none⟩)) := hf.val 0 5 (by kernel_rfl) rfl
          clear hf
          refine wpOp_flow rfl (by rfl) (fun Kq hK => ?_)
          go_simp
          exact hK _ _ ⟨rfl, hSW⟩
        | 2, _ =>
          intro aq W hSW hf
          have v6 : aq.tmps[6]? = some (.bool true) := hf.val 1 6 (by kernel_rfl) rfl
          clear hf
          refine wpOp_flow rfl (by rfl) (fun Kq hK => ?_)
          go_simp
          exact hK _ _ ⟨rfl, hSW⟩
        | 3, _ =>
          intro aq W hSW hf
          have v3 : aq.tmps[3]? = some (.pointer (some ⟨w.heap.size, 0, none⟩)) := (hf.at_base 3 (by kernel_rfl)).trans rfl
          have v7 : aq.tmps[7]? = some (.bool true) := hf.val 2 7 (by kernel_rfl) rfl
          clear hf
          refine wpOp_flow rfl (wanted_of rfl rfl v7) (fun Kq hK => ?_)
          have d0 := D0.out W hSW
          have d1 := D1.out W hSW
          go_simp
          exact hK _ _ ⟨rfl, hSW⟩
        | 4, _ =>
          intro aq W hSW hf
          have v0 : aq.tmps[0]? = some (.pointer (some ⟨b, 0, none⟩)) := (hf.at_base 0 (by kernel_rfl)).trans rfl
          have v7 : aq.tmps[7]? = some (.bool true) := hf.val 2 7 (by kernel_rfl) rfl
          clear hf
          refine wpOp_flow rfl (wanted_of rfl rfl v7) (fun Kq hK => ?_)
          go_simp
          exact hK _ _ ⟨rfl, hSW⟩
        | 5, _ =>
          intro aq W hSW hf
          have v7 : aq.tmps[7]? = some (.bool true) := hf.val 2 7 (by kernel_rfl) rfl
          have v9 : aq.tmps[9]? = some (.pointer (some ⟨b, 0, none⟩)) := hf.val 4 9 (by kernel_rfl) rfl
          clear hf
          refine wpOp_flow rfl (wanted_of rfl rfl v7) (fun Kq hK => ?_)
          go_simp
          exact hK _ _ ⟨rfl, hSW⟩
        | 6, _ =>
          intro aq W hSW hf
          have v7 : aq.tmps[7]? = some (.bool true) := hf.val 2 7 (by kernel_rfl) rfl
          have v10 : aq.tmps[10]? = some (.pointer (some ⟨b, 0, none⟩)) := hf.val 5 10 (by kernel_rfl) rfl
          clear hf
          refine wpOp_flow rfl (wanted_of rfl rfl v7) (fun Kq hK => ?_)
          go_simp
          exact hK _ _ ⟨rfl, hSW⟩
        | 7, _ =>
          intro aq W hSW hf
          have v7 : aq.tmps[7]? = some (.bool true) := hf.val 2 7 (by kernel_rfl) rfl
          have v11 : aq.tmps[11]? = some (.pointer (some ⟨b, 0, none⟩)) := hf.val 6 11 (by kernel_rfl) rfl
          clear hf
          refine wpOp_flow rfl (wanted_of rfl rfl v7) (fun Kq hK => ?_)
          have c0 := C0.out W hSW
          have c1 := C1.out W hSW
          go_simp
          exact hK _ _ ⟨rfl, hSW⟩
        | 8, _ =>
          intro aq W hSW hf
          have v7 : aq.tmps[7]? = some (.bool true) := hf.val 2 7 (by kernel_rfl) rfl
          have v8 : aq.tmps[8]? = some (.agg #[.int .u32 (p.a : Int), .int .i64 p.l]) := hf.val 3 8 (by kernel_rfl) rfl
          have v12 : aq.tmps[12]? = some (.agg #[.int .u32 (q.a : Int), .int .i64 q.l]) := hf.val 7 12 (by kernel_rfl) rfl
          clear hf
          refine wpOp_flow rfl (wanted_of rfl rfl v7) (fun Kq hK => ?_)
          go_simp
          refine (covers_any p q HQP.out.2 HQP.out.1 _).mono ?_
          rw [HCV.out]
          rintro e w19 ⟨rfl, B19⟩
          exact hK _ _ ⟨rfl, hSW.trans (B19.mono hSW.size)⟩
        | 9, _ =>
          intro aq W hSW hf
          have v7 : aq.tmps[7]? = some (.bool true) := hf.val 2 7 (by kernel_rfl) rfl
          have v13 : aq.tmps[13]? = some (.bool true) := hf.val 8 13 (by kernel_rfl) rfl
          clear hf
          refine wpOp_flow rfl (wanted_of rfl rfl v7) (fun Kq hK => ?_)
          go_simp
          exact hK _ _ ⟨rfl, hSW⟩
        | 10, _ =>
          intro aq W hSW hf
          have v7 : aq.tmps[7]? = some (.bool true) := hf.val 2 7 (by kernel_rfl) rfl
          have v14 : aq.tmps[14]? = some (.bool false) := hf.val 9 14 (by kernel_rfl) rfl
          clear hf
          refine wpOp_flow rfl (by rfl) (fun Kq hK => ?_)
          go_simp
          exact hK _ _ ⟨rfl, hSW⟩
        | kq + 11, hk => exact absurd hk (by first | omega | (intro h; simp at h; omega))
      · simp only [puts, Act.put, List.setIfInBounds_toArray, List.set_cons_zero, List.set_cons_succ]
        have HB2 := hidp (HB.out.trans (hSW.mono HB.out.size))
        clear hSW
        go_wp2
        go_ret
        exact ⟨rfl, HB2.out⟩
/-- what stands while both sides are gathered -/
structure GB (w0 : World) (v1 : Value) (l1 kl kr : List Pf) (d11 d12 : Bool) (g : Value × Value) (W : World) : Prop where
  bel : Below w0.heap.size w0 W
  r0 : d11 = false → W.ownsRow w0.heap.size 44 2 v1 l1.length (l1.flatMap Pf.cells)
  r1 : d11 = true → d12 = false → W.ownsRow w0.heap.size 44 2 g.1 (l1 ++ kl).length ((l1 ++ kl).flatMap Pf.cells)
  r2 : d12 = true → W.ownsRow w0.heap.size 44 2 g.2 (l1 ++ kl ++ kr).length ((l1 ++ kl ++ kr).flatMap Pf.cells)
def GatherE (w0 : World) (l : List Pf) (e : Ending) (W : World) : Prop := (∃ v, e = .returned v ∧ W.ownsRow w0.heap.size 44 2 v l.length (l.flatMap Pf.cells)) ∧ Below w0.heap.size w0 W
def Gathers (w0 : World) (t : Tr) : Prop := ∀ (W : World) (v : Value) (l : List Pf), Below w0.heap.size w0 W → W.ownsRow w0.heap.size 44 2 v l.length (l.flatMap Pf.cells) → (l ++ keysA t.ab).length ≤ 1000000 →
  Calls Try.prog 52 #[t.ptr, v] W (GatherE w0 (l ++ keysA t.ab))
set_option maxHeartbeats 1000000 in
theorem gather_nil (w0 : World) : Gathers w0 .nil := by
  intro W v l hB hv _
  have HB := hidp hB
  have HV := hidp hv
  have e : Tr.nil.ptr = .pointer none := rfl
  rw [e, show l ++ keysA Tr.nil.ab = l by simp [Tr.ab, keysA]]
  clear hB hv e
  go_enter Try.func52, Try.ntmps52
  go_wp2
  go_ret
  exact ⟨⟨_, rfl, HV.out⟩, HB.out⟩
set_option maxRecDepth 100000 in
set_option maxHeartbeats 4000000 in
theorem gather_node (wA w0 : World) (b : Nat) (q : Pf) (hs : Bool) (vv : Att) (l r : Tr) (hat : (Tr.node b q hs vv l r).at wA w0) (IL : Gathers w0 l) (IR : Gathers w0 r) : Gathers w0 (.node b q hs vv l r) := by
  intro W v l1 hB hv hlen
  obtain ⟨i0, hi0, hz0, hz1, hz2⟩ := info_parts Try.infos44
  obtain ⟨hb, hq, -, -, -⟩ := hat
  have HIL := hidp IL
  have HIR := hidp IR
  unfold Gathers at HIL HIR
  have e : (Tr.node b q hs vv l r).ptr = .pointer (some ⟨b, 0, none⟩) := rfl
  rw [e]
  generalize l.ptr = vl at *
  generalize r.ptr = vr at *
  have C := hidp (fun (W : World) (hW : Below w0.heap.size w0 W) => (show W.heap[b]? = _ from heap_below hW hb (ltOf hb)))
  have c0 := cellOf (C.out W hB) 0 (v := .int .u32 (q.a : Int)) rfl
  have c1 := cellOf (C.out W hB) 1 (v := .int .i64 q.l) rfl
  have c2 := cellOf (C.out W hB) 2 (v := .bool hs) rfl
  have HB := hidp hB
  have HV := hidp hv
  clear e IL IR hb hv
  cases hs with
  | false =>
    rw [show l1 ++ keysA (Tr.node b q false vv l r).ab = l1 ++ (keysA l.ab ++ keysA r.ab) by simp [Tr.ab, keysA]] at hlen ⊢
    have HLEN := hidp hlen
    clear hlen hB
    go_enter Try.func52, Try.ntmps52
    go_upto_region 5 with (fail)
    obtain ⟨v1, rfl⟩ : ∃ v1, v1 = v := ⟨_, rfl⟩
    clear c0 c1 c2
    obtain ⟨w1, rfl⟩ : ∃ w1, w1 = W := ⟨_, rfl⟩
    refine wp_region_flowG (G := Value × Value) (fun g iqv => ([(.pointer (some ⟨b, 0, none⟩) : Value), (.pointer (some ⟨b, 0, none⟩) : Value), (.pointer (some ⟨b, 14, none⟩) : Value), (.pointer (some ⟨b, 15, none⟩) : Value), (vr : Value), (.pointer (some ⟨b, 0, none⟩) : Value), (.pointer (some ⟨b, 0, none⟩) : Value), (.pointer (some ⟨b, 14, none⟩) : Value), (.pointer (some ⟨b, 14, none⟩) : Value), (vl : Value), (v1 : Value), (g.1 : Value), (g.2 : Value), (g.2 : Value)] : List Value).getD iqv undef) (fun d g W => GB w0 v1 l1 (keysA l.ab) (keysA r.ab) (d 11) (d 12) g W) ((undef, undef)) (fun g => [(some 19, .pointer (some ⟨b, 0, none⟩)), (some 20, .pointer (some ⟨b, 0, none⟩)), (some 21, .pointer (some ⟨b, 14, none⟩)), (some 22, .pointer (some ⟨b, 15, none⟩)), (some 23, vr), (some 24, .pointer (some ⟨b, 0, none⟩)), (some 25, .pointer (some ⟨b, 0, none⟩)), (some 26, .pointer (some ⟨b, 14, none⟩)), (some 27, .pointer (some ⟨b, 14, none⟩)), (some 28, vl), (some 29, v1), (some 30, g.1), (some 31, g.2), (some 4, g.2)]) (by kernel_rfl) (by kernel_rfl) ⟨below_drewN HB.out 1, fun _ => HV.out, fun h => (by cases h), fun h => (by cases h)⟩ (fun iq hiq => ?_) (fun g => by kernel_rfl) (fun d g W hall hJ => ?_)
    · match iq, hiq with
      | 0, _ =>
        intro d g aq W hdi hw hcl hJ hf
        have v0 : aq.tmps[0]? = some (.pointer (some ⟨b, 0, none⟩)) := (hf.at_base 0 (by kernel_rfl)).trans rfl
        clear hf
        refine wpOp_flow rfl (by rfl) (fun Kq hK => ?_)
        go_simp
        exact hK _ _ ⟨g, rfl, hJ, fun _ _ => rfl⟩
      | 1, _ =>
        intro d g aq W hdi hw hcl hJ hf
        have v19 : aq.tmps[19]? = some (.pointer (some ⟨b, 0, none⟩)) := hf.val 0 19 (by kernel_rfl) rfl
        clear hf
        refine wpOp_flow rfl (by rfl) (fun Kq hK => ?_)
        go_simp
        exact hK _ _ ⟨g, rfl, hJ, fun _ _ => rfl⟩
      | 2, _ =>
        intro d g aq W hdi hw hcl hJ hf
        have v20 : aq.tmps[20]? = some (.pointer (some ⟨b, 0, none⟩)) := hf.val 1 20 (by kernel_rfl) rfl
        clear hf
        refine wpOp_flow rfl (by rfl) (fun Kq hK => ?_)
        go_simp
        exact hK _ _ ⟨g, rfl, hJ, fun _ _ => rfl⟩
      | 3, _ =>
        intro d g aq W hdi hw hcl hJ hf
        have v21 : aq.tmps[21]? = some (.pointer (some ⟨b, 14, none⟩)) := hf.val 2 21 (by kernel_rfl) rfl
        clear hf
        refine wpOp_flow rfl (by rfl) (fun Kq hK => ?_)
        go_simp
        exact hK _ _ ⟨g, rfl, hJ, fun _ _ => rfl⟩
      | 4, _ =>
        intro d g aq W hdi hw hcl hJ hf
        have v22 : aq.tmps[22]? = some (.pointer (some ⟨b, 15, none⟩)) := hf.val 3 22 (by kernel_rfl) rfl
        clear hf
        refine wpOp_flow rfl (by rfl) (fun Kq hK => ?_)
        have k := cellOf (C.out W hJ.bel) 15 (v := vr) rfl
        go_simp
        exact hK _ _ ⟨g, rfl, hJ, fun _ _ => rfl⟩
      | 5, _ =>
        intro d g aq W hdi hw hcl hJ hf
        have v0 : aq.tmps[0]? = some (.pointer (some ⟨b, 0, none⟩)) := (hf.at_base 0 (by kernel_rfl)).trans rfl
        clear hf
        refine wpOp_flow rfl (by rfl) (fun Kq hK => ?_)
        go_simp
        exact hK _ _ ⟨g, rfl, hJ, fun _ _ => rfl⟩
      | 6, _ =>
        intro d g aq W hdi hw hcl hJ hf
        have v24 : aq.tmps[24]? = some (.pointer (some ⟨b, 0, none⟩)) := hf.val 5 24 (by kernel_rfl) rfl
        clear hf
        refine wpOp_flow rfl (by rfl) (fun Kq hK => ?_)
        go_simp
        exact hK _ _ ⟨g, rfl, hJ, fun _ _ => rfl⟩
      | 7, _ =>
        intro d g aq W hdi hw hcl hJ hf
        have v25 : aq.tmps[25]? = some (.pointer (some ⟨b, 0, none⟩)) := hf.val 6 25 (by kernel_rfl) rfl
        clear hf
        refine wpOp_flow rfl (by rfl) (fun Kq hK => ?_)
        go_simp
        exact hK _ _ ⟨g, rfl, hJ, fun _ _ => rfl⟩
      | 8, _ =>
        intro d g aq W hdi hw hcl hJ hf
        have v26 : aq.tmps[26]? = some (.pointer (some ⟨b, 14, none⟩)) := hf.val 7 26 (by kernel_rfl) rfl
        clear hf
        refine wpOp_flow rfl (by rfl) (fun Kq hK => ?_)
        go_simp
        exact hK _ _ ⟨g, rfl, hJ, fun _ _ => rfl⟩
      | 9, _ =>
        intro d g aq W hdi hw hcl hJ hf
        have v27 : aq.tmps[27]? = some (.pointer (some ⟨b, 14, none⟩)) := hf.val 8 27 (by kernel_rfl) rfl
        clear hf
        refine wpOp_flow rfl (by rfl) (fun Kq hK => ?_)
        have k := cellOf (C.out W hJ.bel) 14 (v := vl) rfl
        go_simp
        exact hK _ _ ⟨g, rfl, hJ, fun _ _ => rfl⟩
      | 10, _ =>
        intro d g aq W hdi hw hcl hJ hf
        have v1 : aq.tmps[1]? = some (v1) := (hf.at_base 1 (by kernel_rfl)).trans rfl
        clear hf
        refine wpOp_flow rfl (by rfl) (fun Kq hK => ?_)
        go_simp
        exact hK _ _ ⟨g, rfl, hJ, fun _ _ => rfl⟩
      | 11, _ =>
        intro d g aq W hdi hw hcl hJ hf
        have v28 : aq.tmps[28]? = some (vl) := hf.val 9 28 (by kernel_rfl) rfl
        have v29 : aq.tmps[29]? = some (v1) := hf.val 10 29 (by kernel_rfl) rfl
        clear hf
        refine wpOp_flow rfl (by rfl) (fun Kq hK => ?_)
        go_simp
        refine (HIL.out W v1 l1 hJ.bel (hJ.r0 hdi) (by have := HLEN.out; simp at this ⊢; omega)).mono ?_
        rintro e w19 ⟨⟨vq, rfl, hq2⟩, B19⟩
        exact hK _ _ ⟨(vq, g.2), rfl, ⟨B19, fun h => (by cases h), fun _ _ => hq2, fun h => absurd ((hcl 12 h 11 (by kernel_rfl)).symm.trans hdi) (by decide)⟩, (fun j hj => match j, hj with | 0, _ => rfl | 1, _ => rfl | 2, _ => rfl | 3, _ => rfl | 4, _ => rfl | 5, _ => rfl | 6, _ => rfl | 7, _ => rfl | 8, _ => rfl | 9, _ => rfl | 10, _ => rfl | 11, hj => absurd (hj.symm.trans hdi) (by decide) | 12, _ => rfl | 13, _ => rfl | _ + 14, _ => rfl)⟩
      | 12, _ =>
        intro d g aq W hdi hw hcl hJ hf
        have v23 : aq.tmps[23]? = some (vr) := hf.val 4 23 (by kernel_rfl) rfl
        have v30 : aq.tmps[30]? = some (g.1) := hf.val 11 30 (by kernel_rfl) rfl
        clear hf
        refine wpOp_flow rfl (by rfl) (fun Kq hK => ?_)
        go_simp
        refine (HIR.out W g.1 (l1 ++ keysA l.ab) hJ.bel (hJ.r1 (hw 11 (by kernel_rfl)) hdi) (by have := HLEN.out; simp at this ⊢; omega)).mono ?_
        rintro e w19 ⟨⟨vq, rfl, hq2⟩, B19⟩
        exact hK _ _ ⟨(g.1, vq), rfl, ⟨B19, fun h => absurd ((hw 11 (by kernel_rfl)).symm.trans h) (by decide), fun _ h => (by cases h), fun _ => hq2⟩, (fun j hj => match j, hj with | 0, _ => rfl | 1, _ => rfl | 2, _ => rfl | 3, _ => rfl | 4, _ => rfl | 5, _ => rfl | 6, _ => rfl | 7, _ => rfl | 8, _ => rfl | 9, _ => rfl | 10, _ => rfl | 11, _ => rfl | 12, hj => absurd (hj.symm.trans hdi) (by decide) | 13, hj => absurd ((hcl 13 hj 12 (by kernel_rfl)).symm.trans hdi) (by decide) | _ + 14, _ => rfl)⟩
      | 13, _ =>
        intro d g aq W hdi hw hcl hJ hf
        have v31 : aq.tmps[31]? = some (g.2) := hf.val 12 31 (by kernel_rfl) rfl
        clear hf
        refine wpOp_flow rfl (by rfl) (fun Kq hK => ?_)
        go_simp
        exact hK _ _ ⟨g, rfl, hJ, fun _ _ => rfl⟩
      | kq + 14, hk => exact absurd hk (by first | omega | (intro h; simp at h; omega))
    · simp only [puts, Act.put, List.setIfInBounds_toArray, List.set_cons_zero, List.set_cons_succ]
      have h2 := hJ.r2 (hall 12 (by decide))
      rw [List.append_assoc] at h2
      have HR := hidp (And.intro h2 hJ.bel)
      clear h2 hJ hall
      go_wp2
      go_ret
      exact ⟨⟨g.2, rfl, HR.out.1⟩, HR.out.2⟩
  | true =>
    rw [show l1 ++ keysA (Tr.node b q true vv l r).ab = (l1 ++ [q]) ++ (keysA l.ab ++ keysA r.ab) by simp [Tr.ab, keysA]] at hlen ⊢
    have HLEN := hidp hlen
    have hl2 : l1.length ≤ 1000000 := by simp at hlen; omega
    have HV3 := hidp (ownsRow_below HV.out ((Below.refl W.heap.size W).alloc (Nat.le_refl _) (.cells #[.int .u32 (q.a : Int), .int .i64 q.l] 44)) (Nat.le_refl _))
    have HB3 := hidp (hB.trans (((Below.refl W.heap.size W).alloc (Nat.le_refl _) (.cells #[.int .u32 (q.a : Int), .int .i64 q.l] 44)).mono hB.size))
    clear hlen hB
    go_enter Try.func52, Try.ntmps52
    go_upto_region 5 with (at_builtin; go_must (
                     change wpList _ _ _ _ _ (W.alloc (.cells #[.int .u32 (q.a : Int), .int .i64 q.l] 44))
                     refine wpList_append_own_at (W.alloc (.cells #[.int .u32 (q.a : Int), .int .i64 q.l] 44)) rfl (.tmp 12) (.tmp 17) 29 rfl w0.heap.size 44 i0 zero44v 2 16 Try.underlying29 hi0 hz0 hz1 hz2 rfl (by omega) v _ _ rfl HV3.out ⟨W.heap.size, 0, none⟩ 1 1 q.cells rfl rfl (news_two W q) (pf_ones q) (by simp only [maxLen]; omega) (by omega) HB3.out.size ?_
                     intro v1 w1 hown4 hg4 _ hat4
                     have HN := hidp (show w1.ownsRow w0.heap.size 44 2 v1 (l1 ++ [q]).length ((l1 ++ [q]).flatMap Pf.cells) by rw [List.length_append, List.flatMap_append]; simpa using hown4)
                     have HBN := hidp (HB3.out.grown hg4 HB3.out.size fun g hg => (ownsRow_blk HV3.out g hg).1)
                     clear hown4 hg4 hat4))
    clear c0 c1 c2 HV HB HV3 HB3
    have HV := HN
    have HB := HBN
    clear HN HBN
    generalize l1 ++ [q] = l1 at *
    refine wp_region_flowG (G := Value × Value) (fun g iqv => ([(.pointer (some ⟨b, 0, none⟩) : Value), (.pointer (some ⟨b, 0, none⟩) : Value), (.pointer (some ⟨b, 14, none⟩) : Value), (.pointer (some ⟨b, 15, none⟩) : Value), (vr : Value), (.pointer (some ⟨b, 0, none⟩) : Value), (.pointer (some ⟨b, 0, none⟩) : Value), (.pointer (some ⟨b, 14, none⟩) : Value), (.pointer (some ⟨b, 14, none⟩) : Value), (vl : Value), (v1 : Value), (g.1 : Value), (g.2 : Value), (g.2 : Value)] : List Value).getD iqv undef) (fun d g W => GB w0 v1 l1 (keysA l.ab) (keysA r.ab) (d 11) (d 12) g W) ((undef, undef)) (fun g => [(some 19, .pointer (some ⟨b, 0, none⟩)), (some 20, .pointer (some ⟨b, 0, none⟩)), (some 21, .pointer (some ⟨b, 14, none⟩)), (some 22, .pointer (some ⟨b, 15, none⟩)), (some 23, vr), (some 24, .pointer (some ⟨b, 0, none⟩)), (some 25, .pointer (some ⟨b, 0, none⟩)), (some 26, .pointer (some ⟨b, 14, none⟩)), (some 27, .pointer (some ⟨b, 14, none⟩)), (some 28, vl), (some 29, v1), (some 30, g.1), (some 31, g.2), (some 4, g.2)]) (by kernel_rfl) (by kernel_rfl) ⟨below_drewN HB.out 1, fun _ => HV.out, fun h => (by cases h), fun h => (by cases h)⟩ (fun iq hiq => ?_) (fun g => by kernel_rfl) (fun d g W hall hJ => ?_)
    · match iq, hiq with
      | 0, _ =>
        intro d g aq W hdi hw hcl hJ hf
        have v0 : aq.tmps[0]? = some (.pointer (some ⟨b, 0, none⟩)) := (hf.at_base 0 (by kernel_rfl)).trans rfl
        clear hf
        refine wpOp_flow rfl (by rfl) (fun Kq hK => ?_)
        go_simp
        exact hK _ _ ⟨g, rfl, hJ, fun _ _ => rfl⟩
      | 1, _ =>
        intro d g aq W hdi hw hcl hJ hf
        have v19 : aq.tmps[19]? = some (.pointer (some ⟨b, 0, none⟩)) := hf.val 0 19 (by kernel_rfl) rfl
        clear hf
        refine wpOp_flow rfl (by rfl) (fun Kq hK => ?_)
        go_simp
        exact hK _ _ ⟨g, rfl, hJ, fun _ _ => rfl⟩
      | 2, _ =>
        intro d g aq W hdi hw hcl hJ hf
        have v20 : aq.tmps[20]? = some (.pointer (some ⟨b, 0, none⟩)) := hf.val 1 20 (by kernel_rfl) rfl
        clear hf
        refine wpOp_flow rfl (by rfl) (fun Kq hK => ?_)
        go_simp
        exact hK _ _ ⟨g, rfl, hJ, fun _ _ => rfl⟩
      | 3, _ =>
        intro d g aq W hdi hw hcl hJ hf
        have v21 : aq.tmps[21]? = some (.pointer (some ⟨b, 14, none⟩)) := hf.val 2 21 (by kernel_rfl) rfl
        clear hf
        refine wpOp_flow rfl (by rfl) (fun Kq hK => ?_)
        go_simp
        exact hK _ _ ⟨g, rfl, hJ, fun _ _ => rfl⟩
      | 4, _ =>
        intro d g aq W hdi hw hcl hJ hf
        have v22 : aq.tmps[22]? = some (.pointer (some ⟨b, 15, none⟩)) := hf.val 3 22 (by kernel_rfl) rfl
        clear hf
        refine wpOp_flow rfl (by rfl) (fun Kq hK => ?_)
        have k := cellOf (C.out W hJ.bel) 15 (v := vr) rfl
        go_simp
        exact hK _ _ ⟨g, rfl, hJ, fun _ _ => rfl⟩
      | 5, _ =>
        intro d g aq W hdi hw hcl hJ hf
        have v0 : aq.tmps[0]? = some (.pointer (some ⟨b, 0, none⟩)) := (hf.at_base 0 (by kernel_rfl)).trans rfl
        clear hf
        refine wpOp_flow rfl (by rfl) (fun Kq hK => ?_)
        go_simp
        exact hK _ _ ⟨g, rfl, hJ, fun _ _ => rfl⟩
      | 6, _ =>
        intro d g aq W hdi hw hcl hJ hf
        have v24 : aq.tmps[24]? = some (.pointer (some ⟨b, 0, none⟩)) := hf.val 5 24 (by kernel_rfl) rfl
        clear hf
        refine wpOp_flow rfl (by rfl) (fun Kq hK => ?_)
        go_simp
        exact hK _ _ ⟨g, rfl, hJ, fun _ _ => rfl⟩
      | 7, _ =>
        intro d g aq W hdi hw hcl hJ hf
        have v25 : aq.tmps[25]? = some (.pointer (some ⟨b, 0, none⟩)) := hf.val 6 25 (by kernel_rfl) rfl
        clear hf
        refine wpOp_flow rfl (by rfl) (fun Kq hK => ?_)
        go_simp
        exact hK _ _ ⟨g, rfl, hJ, fun _ _ => rfl⟩
      | 8, _ =>
        intro d g aq W hdi hw hcl hJ hf
        have v26 : aq.tmps[26]? = some (.pointer (some ⟨b, 14, none⟩)) := hf.val 7 26 (by kernel_rfl) rfl
        clear hf
        refine wpOp_flow rfl (by rfl) (fun Kq hK => ?_)
        go_simp
        exact hK _ _ ⟨g, rfl, hJ, fun _ _ => rfl⟩
      | 9, _ =>
        intro d g aq W hdi hw hcl hJ hf
        have v27 : aq.tmps[27]? = some (.pointer (some ⟨b, 14, none⟩)) := hf.val 8 27 (by kernel_rfl) rfl
        clear hf
        refine wpOp_flow rfl (by rfl) (fun Kq hK => ?_)
        have k := cellOf (C.out W hJ.bel) 14 (v := vl) rfl
        go_simp
        exact hK _ _ ⟨g, rfl, hJ, fun _ _ => rfl⟩
      | 10, _ =>
        intro d g aq W hdi hw hcl hJ hf
        have v1 : aq.tmps[1]? = some (v1) := (hf.at_base 1 (by kernel_rfl)).trans rfl
        clear hf
        refine wpOp_flow rfl (by rfl) (fun Kq hK => ?_)
        go_simp
        exact hK _ _ ⟨g, rfl, hJ, fun _ _ => rfl⟩
      | 11, _ =>
        intro d g aq W hdi hw hcl hJ hf
        have v28 : aq.tmps[28]? = some (vl) := hf.val 9 28 (by kernel_rfl) rfl
        have v29 : aq.tmps[29]? = some (v1) := hf.val 10 29 (by kernel_rfl) rfl
        clear hf
        refine wpOp_flow rfl (by rfl) (fun Kq hK => ?_)
        go_simp
        refine (HIL.out W v1 l1 hJ.bel (hJ.r0 hdi) (by have := HLEN.out; simp at this ⊢; omega)).mono ?_
        rintro e w19 ⟨⟨vq, rfl, hq2⟩, B19⟩
        exact hK _ _ ⟨(vq, g.2), rfl, ⟨B19, fun h => (by cases h), fun _ _ => hq2, fun h => absurd ((hcl 12 h 11 (by kernel_rfl)).symm.trans hdi) (by decide)⟩, (fun j hj => match j, hj with | 0, _ => rfl | 1, _ => rfl | 2, _ => rfl | 3, _ => rfl | 4, _ => rfl | 5, _ => rfl | 6, _ => rfl | 7, _ => rfl | 8, _ => rfl | 9, _ => rfl | 10, _ => rfl | 11, hj => absurd (hj.symm.trans hdi) (by decide) | 12, _ => rfl | 13, _ => rfl | _ + 14, _ => rfl)⟩
      | 12, _ =>
        intro d g aq W hdi hw hcl hJ hf
        have v23 : aq.tmps[23]? = some (vr) := hf.val 4 23 (by kernel_rfl) rfl
        have v30 : aq.tmps[30]? = some (g.1) := hf.val 11 30 (by kernel_rfl) rfl
        clear hf
        refine wpOp_flow rfl (by rfl) (fun Kq hK => ?_)
        go_simp
        refine (HIR.out W g.1 (l1 ++ keysA l.ab) hJ.bel (hJ.r1 (hw 11 (by kernel_rfl)) hdi) (by have := HLEN.out; simp at this ⊢; omega)).mono ?_
        rintro e w19 ⟨⟨vq, rfl, hq2⟩, B19⟩
        exact hK _ _ ⟨(g.1, vq), rfl, ⟨B19, fun h => absurd ((hw 11 (by kernel_rfl)).symm.trans h) (by decide), fun _ h => (by cases h), fun _ => hq2⟩, (fun j hj => match j, hj with | 0, _ => rfl | 1, _ => rfl | 2, _ => rfl | 3, _ => rfl | 4, _ => rfl | 5, _ => rfl | 6, _ => rfl | 7, _ => rfl | 8, _ => rfl | 9, _ => rfl | 10, _ => rfl | 11, _ => rfl | 12, hj => absurd (hj.symm.trans hdi) (by decide) | 13, hj => absurd ((hcl 13 hj 12 (by kernel_rfl)).symm.trans hdi) (by decide) | _ + 14, _ => rfl)⟩
      | 13, _ =>
        intro d g aq W hdi hw hcl hJ hf
        have v31 : aq.tmps[31]? = some (g.2) := hf.val 12 31 (by kernel_rfl) rfl
        clear hf
        refine wpOp_flow rfl (by rfl) (fun Kq hK => ?_)
        go_simp
        exact hK _ _ ⟨g, rfl, hJ, fun _ _ => rfl⟩
      | kq + 14, hk => exact absurd hk (by first | omega | (intro h; simp at h; omega))
    · simp only [puts, Act.put, List.setIfInBounds_toArray, List.set_cons_zero, List.set_cons_succ]
      have h2 := hJ.r2 (hall 12 (by decide))
      rw [List.append_assoc] at h2
      have HR := hidp (And.intro h2 hJ.bel)
      clear h2 hJ hall
      go_wp2
      go_ret
      exact ⟨⟨g.2, rfl, HR.out.1⟩, HR.out.2⟩
theorem gather_any (wA w0 : World) : ∀ (t : Tr), t.at wA w0 → Gathers w0 t
  | .nil, _ => gather_nil w0
  | .node b q hs vv l r, h => gather_node wA w0 b q hs vv l r h (gather_any wA w0 l h.2.2.2.1) (gather_any wA w0 r h.2.2.2.2)
end Go.Proofs.Ytnenpfalhbbadaa
