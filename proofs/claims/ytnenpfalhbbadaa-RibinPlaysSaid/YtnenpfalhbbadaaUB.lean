/- The document's Same of two lists of routes that hold the same. -/
import Derived.Test.YtnenpfalhbbadaaUA
import Derived.Test.YtnenpfalhbbadaaSB
namespace Go.Proofs.Ytnenpfalhbbadaa
open Go.RowKit

theorem en_att {w : World} {b o : Nat} {e : En} (h : w.rangeAt b o e.cells) : w.rangeAt b (o + 3) e.att.cells := fun j x hx => by
  have hj : j < 11 := (List.getElem?_eq_some_iff.1 hx).1
  rw [Nat.add_assoc, Nat.add_comm 3 j]
  refine h (j + 3) x ?_
  have : e.cells = [.int .u32 (e.p.a : Int), .int .i64 e.p.l, .int .i64 e.fr] ++ e.att.cells := rfl
  rw [this, List.getElem?_append_right (by simp)]
  exact hx
theorem EnsV.rows {wA w : World} {a : Option Addr} {n : Nat} {L : List En} (h : EnsV wA w a n L) (hn : 0 < n) : ∃ g o, a = some ⟨g, o, none⟩ ∧ ∀ j (hj : j < L.length), w.rangeAt g (o + j * 14) L[j].cells := by
  obtain ⟨g, o, e, hr⟩ := h.row.2 hn
  refine ⟨g, o, e, fun j hj k v hv => ?_⟩
  have hk : k < 14 := (List.getElem?_eq_some_iff.1 hv).1
  have := hr (j * 14 + k) v (by rw [flat_get En.cells 14 En.len L j k hj hk]; exact hv)
  rw [← Nat.add_assoc] at this
  exact this
theorem own_ens {wA w : World} {base n : Nat} {v : Value} {l : List En} (h : w.ownsRow base 63 14 v n (l.flatMap En.cells)) (hok : ∀ e ∈ l, e.p.ok ∧ e.att.at wA) : ∃ a c, v = .slice a n c ∧ EnsV wA w a n l := by
  have hl := h.1
  rw [ens_len] at hl
  obtain ⟨h1, ⟨hv, h0⟩ | ⟨g, cap, cur, hv, hg, hh, hn, hm, hs, ht⟩⟩ := h
  · exact ⟨none, 0, by rw [hv, h0], ⟨h1, fun hp => absurd hp (by omega)⟩, by omega, hok⟩
  · refine ⟨_, _, hv, ⟨h1, fun _ => ⟨g, 0, rfl, fun j x hx => ?_⟩⟩, by omega, hok⟩
    refine cellOf hh (0 + j) ?_
    rw [Nat.zero_add]
    rw [← ht, List.getElem?_take] at hx
    by_cases hj : j < n * 14
    · rw [if_pos hj] at hx; simpa using hx
    · rw [if_neg hj] at hx; cases hx
set_option maxRecDepth 100000 in
set_option maxHeartbeats 4000000 in
theorem same13_refl (wA : World) (a b : Option Addr) (n c d : Nat) (L : List En) (w : World) (ha : EnsV wA w a n L) (hb : EnsV wA w b n L) (hn : n ≤ 1000) (hwA : Below wA.heap.size wA w) :
    Calls Try.prog 13 #[.slice a n c, .slice b n d] w fun e w' => e = .returned (.bool true) ∧ Below w.heap.size w w' := by
  have HX := hidp ha
  have HY := hidp hb
  have HW := hidp hwA
  clear ha hb hwA
  go_enter Try.func13, Try.ntmps13
  go_wp2
  go_loopw [5] (fun i wr => ∃ j : Nat, j ≤ n ∧ i = .int .i64 (j : Int) ∧ Hid (Below w.heap.size w wr)) (fun i _ => n - (intOf i).toNat)
  case atStart => exact ⟨0, by omega, rfl, Below.refl _ _⟩
  case round =>
    obtain ⟨j, hj, rfl, HB⟩ := hrel
    by_cases hlt : j < n
    · have l1 : (j : Int) < (n : Int) := by omega
      obtain ⟨g, o, rfl, hr1⟩ := (HX.out.below HB.out).rows (by omega)
      obtain ⟨g', o', rfl, hr2⟩ := (HY.out.below HB.out).rows (by omega)
      have hjl : j < L.length := by rw [HX.out.len]; exact hlt
      have q1 := hr1 j hjl
      have q2 := hr2 j hjl
      have hat := (HX.out.ok _ (List.getElem_mem hjl)).2
      generalize L[j] = e at *
      have R1 := hidp (fun W (hW : Below wr.heap.size wr W) => (show W.rangeAt g (o + j * 14) e.cells from fun i v hv => below_cell hW (Nat.le_refl _) _ _ (q1 i v hv)))
      have R2 := hidp (fun W (hW : Below wr.heap.size wr W) => (show W.rangeAt g' (o' + j * 14) e.cells from fun i v hv => below_cell hW (Nat.le_refl _) _ _ (q2 i v hv)))
      have HE := hidp (show ∀ w, (Op.equalIn 10000 44 (.agg #[.int .u32 (e.p.a : Int), .int .i64 e.p.l]) (.agg #[.int .u32 (e.p.a : Int), .int .i64 e.p.l])).run Try.prog w = .ok true w from fun w => by rw [equal44 e.p e.p]; simp)
      have H20 := hidp (fun W (hW : Below wr.heap.size wr W) => by
        have h := same20_any e.att e.att W (hat.below (HW.out.trans ((HB.out.trans (hW.mono HB.out.size)).mono HW.out.size))) (hat.below (HW.out.trans ((HB.out.trans (hW.mono HB.out.size)).mono HW.out.size)))
        rw [sameA_refl, show e.att.val = .agg e.att.cells.toArray from rfl] at h
        exact h)
      have L1 := hidp l1
      clear q1 q2 hr1 hr2 hjl hat
      go_upto_region 6 with (fail)
      refine wp_region_flow2 (fun iqv => ([(.slice (some ⟨g, o, none⟩) n c : Value), (.int .i64 (j : Int) : Value), (.pointer (some ⟨g, o + j * 14, none⟩) : Value), (.pointer (some ⟨g, o + j * 14, none⟩) : Value), (.agg #[.int .u32 (e.p.a : Int), .int .i64 e.p.l] : Value), (.slice (some ⟨g', o', none⟩) n d : Value), (.int .i64 (j : Int) : Value), (.pointer (some ⟨g', o' + j * 14, none⟩) : Value), (.pointer (some ⟨g', o' + j * 14, none⟩) : Value), (.agg #[.int .u32 (e.p.a : Int), .int .i64 e.p.l] : Value), (.bool false : Value), (.bool false : Value), (.slice (some ⟨g, o, none⟩) n c : Value), (.int .i64 (j : Int) : Value), (.pointer (some ⟨g, o + j * 14, none⟩) : Value), (.pointer (some ⟨g, o + j * 14 + 2, none⟩) : Value), (.int .i64 e.fr : Value), (.slice (some ⟨g', o', none⟩) n d : Value), (.int .i64 (j : Int) : Value), (.pointer (some ⟨g', o' + j * 14, none⟩) : Value), (.pointer (some ⟨g', o' + j * 14 + 2, none⟩) : Value), (.int .i64 e.fr : Value), (.bool false : Value), (.bool false : Value), (.bool false : Value), (.slice (some ⟨g, o, none⟩) n c : Value), (.int .i64 (j : Int) : Value), (.pointer (some ⟨g, o + j * 14, none⟩) : Value), (.pointer (some ⟨g, o + j * 14 + 3, none⟩) : Value), (.agg e.att.cells.toArray : Value), (.slice (some ⟨g', o', none⟩) n d : Value), (.int .i64 (j : Int) : Value), (.pointer (some ⟨g', o' + j * 14, none⟩) : Value), (.pointer (some ⟨g', o' + j * 14 + 3, none⟩) : Value), (.agg e.att.cells.toArray : Value), (.bool true : Value), (.bool false : Value), (.bool false : Value)] : List Value).getD iqv undef) [(some 17, .slice (some ⟨g, o, none⟩) n c), (some 18, .int .i64 (j : Int)), (some 19, .pointer (some ⟨g, o + j * 14, none⟩)), (some 20, .pointer (some ⟨g, o + j * 14, none⟩)), (some 21, .agg #[.int .u32 (e.p.a : Int), .int .i64 e.p.l]), (some 22, .slice (some ⟨g', o', none⟩) n d), (some 23, .int .i64 (j : Int)), (some 24, .pointer (some ⟨g', o' + j * 14, none⟩)), (some 25, .pointer (some ⟨g', o' + j * 14, none⟩)), (some 26, .agg #[.int .u32 (e.p.a : Int), .int .i64 e.p.l]), (some 27, .bool false), (some 28, .bool false), (some 29, .slice (some ⟨g, o, none⟩) n c), (some 30, .int .i64 (j : Int)), (some 31, .pointer (some ⟨g, o + j * 14, none⟩)), (some 32, .pointer (some ⟨g, o + j * 14 + 2, none⟩)), (some 33, .int .i64 e.fr), (some 34, .slice (some ⟨g', o', none⟩) n d), (some 35, .int .i64 (j : Int)), (some 36, .pointer (some ⟨g', o' + j * 14, none⟩)), (some 37, .pointer (some ⟨g', o' + j * 14 + 2, none⟩)), (some 38, .int .i64 e.fr), (some 39, .bool false), (some 40, .bool false), (some 41, .bool false), (some 42, .slice (some ⟨g, o, none⟩) n c), (some 43, .int .i64 (j : Int)), (some 44, .pointer (some ⟨g, o + j * 14, none⟩)), (some 45, .pointer (some ⟨g, o + j * 14 + 3, none⟩)), (some 46, .agg e.att.cells.toArray), (some 47, .slice (some ⟨g', o', none⟩) n d), (some 48, .int .i64 (j : Int)), (some 49, .pointer (some ⟨g', o' + j * 14, none⟩)), (some 50, .pointer (some ⟨g', o' + j * 14 + 3, none⟩)), (some 51, .agg e.att.cells.toArray), (some 52, .bool true), (some 53, .bool false), (some 54, .bool false)] (fun W : World => Below wr.heap.size wr W) (by kernel_rfl) (by kernel_rfl) ((Below.refl _ _).drew) (fun iq hiq => ?_) (by kernel_rfl) (fun W hSW => ?_)
      · match iq, hiq with
        | 0, _ =>
          intro aq W hSW hf
          have v0 : aq.tmps[0]? = some (.slice (some ⟨g, o, none⟩) n c) := (hf.at_base 0 (by kernel_rfl)).trans rfl
          clear hf
          refine wpOp_flow rfl (by rfl) (fun Kq hK => ?_)
          go_simp
          exact hK _ _ ⟨rfl, hSW⟩
        | 1, _ =>
          intro aq W hSW hf
          have v5 : aq.tmps[5]? = some (.int .i64 (j : Int)) := (hf.at_base 5 (by kernel_rfl)).trans rfl
          clear hf
          refine wpOp_flow rfl (by rfl) (fun Kq hK => ?_)
          go_simp
          exact hK _ _ ⟨rfl, hSW⟩
        | 2, _ =>
          intro aq W hSW hf
          have v17 : aq.tmps[17]? = some (.slice (some ⟨g, o, none⟩) n c) := hf.val 0 17 (by kernel_rfl) rfl
          have v18 : aq.tmps[18]? = some (.int .i64 (j : Int)) := hf.val 1 18 (by kernel_rfl) rfl
          clear hf
          refine wpOp_flow rfl (by rfl) (fun Kq hK => ?_)
          have l1 := L1.out
          go_simp
          exact hK _ _ ⟨rfl, hSW⟩
        | 3, _ =>
          intro aq W hSW hf
          have v19 : aq.tmps[19]? = some (.pointer (some ⟨g, o + j * 14, none⟩)) := hf.val 2 19 (by kernel_rfl) rfl
          clear hf
          refine wpOp_flow rfl (by rfl) (fun Kq hK => ?_)
          go_simp
          exact hK _ _ ⟨rfl, hSW⟩
        | 4, _ =>
          intro aq W hSW hf
          have v20 : aq.tmps[20]? = some (.pointer (some ⟨g, o + j * 14, none⟩)) := hf.val 3 20 (by kernel_rfl) rfl
          clear hf
          refine wpOp_flow rfl (by rfl) (fun Kq hK => ?_)
          have c0 : W.cell? ⟨g, o + j * 14, none⟩ = some (.int .u32 (e.p.a : Int)) := R1.out W hSW 0 _ rfl
          have c1 : W.cell? ⟨g, o + j * 14 + 1, none⟩ = some (.int .i64 e.p.l) := R1.out W hSW 1 _ rfl
          go_simp
          exact hK _ _ ⟨rfl, hSW⟩
        | 5, _ =>
          intro aq W hSW hf
          have v1 : aq.tmps[1]? = some (.slice (some ⟨g', o', none⟩) n d) := (hf.at_base 1 (by kernel_rfl)).trans rfl
          clear hf
          refine wpOp_flow rfl (by rfl) (fun Kq hK => ?_)
          go_simp
          exact hK _ _ ⟨rfl, hSW⟩
        | 6, _ =>
          intro aq W hSW hf
          have v5 : aq.tmps[5]? = some (.int .i64 (j : Int)) := (hf.at_base 5 (by kernel_rfl)).trans rfl
          clear hf
          refine wpOp_flow rfl (by rfl) (fun Kq hK => ?_)
          go_simp
          exact hK _ _ ⟨rfl, hSW⟩
        | 7, _ =>
          intro aq W hSW hf
          have v22 : aq.tmps[22]? = some (.slice (some ⟨g', o', none⟩) n d) := hf.val 5 22 (by kernel_rfl) rfl
          have v23 : aq.tmps[23]? = some (.int .i64 (j : Int)) := hf.val 6 23 (by kernel_rfl) rfl
          clear hf
          refine wpOp_flow rfl (by rfl) (fun Kq hK => ?_)
          have l1 := L1.out
          go_simp
          exact hK _ _ ⟨rfl, hSW⟩
        | 8, _ =>
          intro aq W hSW hf
          have v24 : aq.tmps[24]? = some (.pointer (some ⟨g', o' + j * 14, none⟩)) := hf.val 7 24 (by kernel_rfl) rfl
          clear hf
          refine wpOp_flow rfl (by rfl) (fun Kq hK => ?_)
          go_simp
          exact hK _ _ ⟨rfl, hSW⟩
        | 9, _ =>
          intro aq W hSW hf
          have v25 : aq.tmps[25]? = some (.pointer (some ⟨g', o' + j * 14, none⟩)) := hf.val 8 25 (by kernel_rfl) rfl
          clear hf
          refine wpOp_flow rfl (by rfl) (fun Kq hK => ?_)
          have c0 : W.cell? ⟨g', o' + j * 14, none⟩ = some (.int .u32 (e.p.a : Int)) := R2.out W hSW 0 _ rfl
          have c1 : W.cell? ⟨g', o' + j * 14 + 1, none⟩ = some (.int .i64 e.p.l) := R2.out W hSW 1 _ rfl
          go_simp
          exact hK _ _ ⟨rfl, hSW⟩
        | 10, _ =>
          intro aq W hSW hf
          have v21 : aq.tmps[21]? = some (.agg #[.int .u32 (e.p.a : Int), .int .i64 e.p.l]) := hf.val 4 21 (by kernel_rfl) rfl
          have v26 : aq.tmps[26]? = some (.agg #[.int .u32 (e.p.a : Int), .int .i64 e.p.l]) := hf.val 9 26 (by kernel_rfl) rfl
          clear hf
          refine wpOp_flow rfl (by rfl) (fun Kq hK => ?_)
          have hE := HE.out
          go_simp
          exact hK _ _ ⟨rfl, hSW⟩
        | 11, _ =>
          intro aq W hSW hf
          have v27 : aq.tmps[27]? = some (.bool false) := hf.val 10 27 (by kernel_rfl) rfl
          clear hf
          refine wpOp_flow rfl (by rfl) (fun Kq hK => ?_)
          go_simp
          exact hK _ _ ⟨rfl, hSW⟩
        | 12, _ =>
          intro aq W hSW hf
          have v0 : aq.tmps[0]? = some (.slice (some ⟨g, o, none⟩) n c) := (hf.at_base 0 (by kernel_rfl)).trans rfl
          have v28 : aq.tmps[28]? = some (.bool false) := hf.val 11 28 (by kernel_rfl) rfl
          clear hf
          refine wpOp_flow rfl (wanted_of rfl rfl v28) (fun Kq hK => ?_)
          go_simp
          exact hK _ _ ⟨rfl, hSW⟩
        | 13, _ =>
          intro aq W hSW hf
          have v5 : aq.tmps[5]? = some (.int .i64 (j : Int)) := (hf.at_base 5 (by kernel_rfl)).trans rfl
          have v28 : aq.tmps[28]? = some (.bool false) := hf.val 11 28 (by kernel_rfl) rfl
          clear hf
          refine wpOp_flow rfl (wanted_of rfl rfl v28) (fun Kq hK => ?_)
          go_simp
          exact hK _ _ ⟨rfl, hSW⟩
        | 14, _ =>
          intro aq W hSW hf
          have v28 : aq.tmps[28]? = some (.bool false) := hf.val 11 28 (by kernel_rfl) rfl
          have v29 : aq.tmps[29]? = some (.slice (some ⟨g, o, none⟩) n c) := hf.val 12 29 (by kernel_rfl) rfl
          have v30 : aq.tmps[30]? = some (.int .i64 (j : Int)) := hf.val 13 30 (by kernel_rfl) rfl
          clear hf
          refine wpOp_flow rfl (wanted_of rfl rfl v28) (fun Kq hK => ?_)
          have l1 := L1.out
          go_simp
          exact hK _ _ ⟨rfl, hSW⟩
        | 15, _ =>
          intro aq W hSW hf
          have v28 : aq.tmps[28]? = some (.bool false) := hf.val 11 28 (by kernel_rfl) rfl
          have v31 : aq.tmps[31]? = some (.pointer (some ⟨g, o + j * 14, none⟩)) := hf.val 14 31 (by kernel_rfl) rfl
          clear hf
          refine wpOp_flow rfl (wanted_of rfl rfl v28) (fun Kq hK => ?_)
          go_simp
          exact hK _ _ ⟨rfl, hSW⟩
        | 16, _ =>
          intro aq W hSW hf
          have v28 : aq.tmps[28]? = some (.bool false) := hf.val 11 28 (by kernel_rfl) rfl
          have v32 : aq.tmps[32]? = some (.pointer (some ⟨g, o + j * 14 + 2, none⟩)) := hf.val 15 32 (by kernel_rfl) rfl
          clear hf
          refine wpOp_flow rfl (wanted_of rfl rfl v28) (fun Kq hK => ?_)
          have c2 : W.cell? ⟨g, o + j * 14 + 2, none⟩ = some (.int .i64 e.fr) := R1.out W hSW 2 _ rfl
          go_simp
          exact hK _ _ ⟨rfl, hSW⟩
        | 17, _ =>
          intro aq W hSW hf
          have v1 : aq.tmps[1]? = some (.slice (some ⟨g', o', none⟩) n d) := (hf.at_base 1 (by kernel_rfl)).trans rfl
          have v28 : aq.tmps[28]? = some (.bool false) := hf.val 11 28 (by kernel_rfl) rfl
          clear hf
          refine wpOp_flow rfl (wanted_of rfl rfl v28) (fun Kq hK => ?_)
          go_simp
          exact hK _ _ ⟨rfl, hSW⟩
        | 18, _ =>
          intro aq W hSW hf
          have v5 : aq.tmps[5]? = some (.int .i64 (j : Int)) := (hf.at_base 5 (by kernel_rfl)).trans rfl
          have v28 : aq.tmps[28]? = some (.bool false) := hf.val 11 28 (by kernel_rfl) rfl
          clear hf
          refine wpOp_flow rfl (wanted_of rfl rfl v28) (fun Kq hK => ?_)
          go_simp
          exact hK _ _ ⟨rfl, hSW⟩
        | 19, _ =>
          intro aq W hSW hf
          have v28 : aq.tmps[28]? = some (.bool false) := hf.val 11 28 (by kernel_rfl) rfl
          have v34 : aq.tmps[34]? = some (.slice (some ⟨g', o', none⟩) n d) := hf.val 17 34 (by kernel_rfl) rfl
          have v35 : aq.tmps[35]? = some (.int .i64 (j : Int)) := hf.val 18 35 (by kernel_rfl) rfl
          clear hf
          refine wpOp_flow rfl (wanted_of rfl rfl v28) (fun Kq hK => ?_)
          have l1 := L1.out
          go_simp
          exact hK _ _ ⟨rfl, hSW⟩
        | 20, _ =>
          intro aq W hSW hf
          have v28 : aq.tmps[28]? = some (.bool false) := hf.val 11 28 (by kernel_rfl) rfl
          have v36 : aq.tmps[36]? = some (.pointer (some ⟨g', o' + j * 14, none⟩)) := hf.val 19 36 (by kernel_rfl) rfl
          clear hf
          refine wpOp_flow rfl (wanted_of rfl rfl v28) (fun Kq hK => ?_)
          go_simp
          exact hK _ _ ⟨rfl, hSW⟩
        | 21, _ =>
          intro aq W hSW hf
          have v28 : aq.tmps[28]? = some (.bool false) := hf.val 11 28 (by kernel_rfl) rfl
          have v37 : aq.tmps[37]? = some (.pointer (some ⟨g', o' + j * 14 + 2, none⟩)) := hf.val 20 37 (by kernel_rfl) rfl
          clear hf
          refine wpOp_flow rfl (wanted_of rfl rfl v28) (fun Kq hK => ?_)
          have c2 : W.cell? ⟨g', o' + j * 14 + 2, none⟩ = some (.int .i64 e.fr) := R2.out W hSW 2 _ rfl
          go_simp
          exact hK _ _ ⟨rfl, hSW⟩
        | 22, _ =>
          intro aq W hSW hf
          have v28 : aq.tmps[28]? = some (.bool false) := hf.val 11 28 (by kernel_rfl) rfl
          have v33 : aq.tmps[33]? = some (.int .i64 e.fr) := hf.val 16 33 (by kernel_rfl) rfl
          have v38 : aq.tmps[38]? = some (.int .i64 e.fr) := hf.val 21 38 (by kernel_rfl) rfl
          clear hf
          refine wpOp_flow rfl (wanted_of rfl rfl v28) (fun Kq hK => ?_)
          go_simp
          exact hK _ _ ⟨rfl, hSW⟩
        | 23, _ =>
          intro aq W hSW hf
          have v28 : aq.tmps[28]? = some (.bool false) := hf.val 11 28 (by kernel_rfl) rfl
          have v39 : aq.tmps[39]? = some (.bool false) := hf.val 22 39 (by kernel_rfl) rfl
          clear hf
          refine wpOp_flow rfl (by rfl) (fun Kq hK => ?_)
          go_simp
          exact hK _ _ ⟨rfl, hSW⟩
        | 24, _ =>
          intro aq W hSW hf
          have v40 : aq.tmps[40]? = some (.bool false) := hf.val 23 40 (by kernel_rfl) rfl
          clear hf
          refine wpOp_flow rfl (by rfl) (fun Kq hK => ?_)
          go_simp
          exact hK _ _ ⟨rfl, hSW⟩
        | 25, _ =>
          intro aq W hSW hf
          have v0 : aq.tmps[0]? = some (.slice (some ⟨g, o, none⟩) n c) := (hf.at_base 0 (by kernel_rfl)).trans rfl
          have v41 : aq.tmps[41]? = some (.bool false) := hf.val 24 41 (by kernel_rfl) rfl
          clear hf
          refine wpOp_flow rfl (wanted_of rfl rfl v41) (fun Kq hK => ?_)
          go_simp
          exact hK _ _ ⟨rfl, hSW⟩
        | 26, _ =>
          intro aq W hSW hf
          have v5 : aq.tmps[5]? = some (.int .i64 (j : Int)) := (hf.at_base 5 (by kernel_rfl)).trans rfl
          have v41 : aq.tmps[41]? = some (.bool false) := hf.val 24 41 (by kernel_rfl) rfl
          clear hf
          refine wpOp_flow rfl (wanted_of rfl rfl v41) (fun Kq hK => ?_)
          go_simp
          exact hK _ _ ⟨rfl, hSW⟩
        | 27, _ =>
          intro aq W hSW hf
          have v41 : aq.tmps[41]? = some (.bool false) := hf.val 24 41 (by kernel_rfl) rfl
          have v42 : aq.tmps[42]? = some (.slice (some ⟨g, o, none⟩) n c) := hf.val 25 42 (by kernel_rfl) rfl
          have v43 : aq.tmps[43]? = some (.int .i64 (j : Int)) := hf.val 26 43 (by kernel_rfl) rfl
          clear hf
          refine wpOp_flow rfl (wanted_of rfl rfl v41) (fun Kq hK => ?_)
          have l1 := L1.out
          go_simp
          exact hK _ _ ⟨rfl, hSW⟩
        | 28, _ =>
          intro aq W hSW hf
          have v41 : aq.tmps[41]? = some (.bool false) := hf.val 24 41 (by kernel_rfl) rfl
          have v44 : aq.tmps[44]? = some (.pointer (some ⟨g, o + j * 14, none⟩)) := hf.val 27 44 (by kernel_rfl) rfl
          clear hf
          refine wpOp_flow rfl (wanted_of rfl rfl v41) (fun Kq hK => ?_)
          go_simp
          exact hK _ _ ⟨rfl, hSW⟩
        | 29, _ =>
          intro aq W hSW hf
          have v41 : aq.tmps[41]? = some (.bool false) := hf.val 24 41 (by kernel_rfl) rfl
          have v45 : aq.tmps[45]? = some (.pointer (some ⟨g, o + j * 14 + 3, none⟩)) := hf.val 28 45 (by kernel_rfl) rfl
          clear hf
          refine wpOp_flow rfl (wanted_of rfl rfl v41) (fun Kq hK => ?_)
          refine wp_load_mid 37 (.tmp 45) rfl g (o + j * 14 + 3) (eval_of v45) e.att.cells _ (en_att (R1.out W hSW)) Try.underlying37 rfl Try.info37 (hK _ _ ⟨rfl, hSW⟩)
        | 30, _ =>
          intro aq W hSW hf
          have v1 : aq.tmps[1]? = some (.slice (some ⟨g', o', none⟩) n d) := (hf.at_base 1 (by kernel_rfl)).trans rfl
          have v41 : aq.tmps[41]? = some (.bool false) := hf.val 24 41 (by kernel_rfl) rfl
          clear hf
          refine wpOp_flow rfl (wanted_of rfl rfl v41) (fun Kq hK => ?_)
          go_simp
          exact hK _ _ ⟨rfl, hSW⟩
        | 31, _ =>
          intro aq W hSW hf
          have v5 : aq.tmps[5]? = some (.int .i64 (j : Int)) := (hf.at_base 5 (by kernel_rfl)).trans rfl
          have v41 : aq.tmps[41]? = some (.bool false) := hf.val 24 41 (by kernel_rfl) rfl
          clear hf
          refine wpOp_flow rfl (wanted_of rfl rfl v41) (fun Kq hK => ?_)
          go_simp
          exact hK _ _ ⟨rfl, hSW⟩
        | 32, _ =>
          intro aq W hSW hf
          have v41 : aq.tmps[41]? = some (.bool false) := hf.val 24 41 (by kernel_rfl) rfl
          have v47 : aq.tmps[47]? = some (.slice (some ⟨g', o', none⟩) n d) := hf.val 30 47 (by kernel_rfl) rfl
          have v48 : aq.tmps[48]? = some (.int .i64 (j : Int)) := hf.val 31 48 (by kernel_rfl) rfl
          clear hf
          refine wpOp_flow rfl (wanted_of rfl rfl v41) (fun Kq hK => ?_)
          have l1 := L1.out
          go_simp
          exact hK _ _ ⟨rfl, hSW⟩
        | 33, _ =>
          intro aq W hSW hf
          have v41 : aq.tmps[41]? = some (.bool false) := hf.val 24 41 (by kernel_rfl) rfl
          have v49 : aq.tmps[49]? = some (.pointer (some ⟨g', o' + j * 14, none⟩)) := hf.val 32 49 (by kernel_rfl) rfl
          clear hf
          refine wpOp_flow rfl (wanted_of rfl rfl v41) (fun Kq hK => ?_)
          go_simp
          exact hK _ _ ⟨rfl, hSW⟩
        | 34, _ =>
          intro aq W hSW hf
          have v41 : aq.tmps[41]? = some (.bool false) := hf.val 24 41 (by kernel_rfl) rfl
          have v50 : aq.tmps[50]? = some (.pointer (some ⟨g', o' + j * 14 + 3, none⟩)) := hf.val 33 50 (by kernel_rfl) rfl
          clear hf
          refine wpOp_flow rfl (wanted_of rfl rfl v41) (fun Kq hK => ?_)
          refine wp_load_mid 37 (.tmp 50) rfl g' (o' + j * 14 + 3) (eval_of v50) e.att.cells _ (en_att (R2.out W hSW)) Try.underlying37 rfl Try.info37 (hK _ _ ⟨rfl, hSW⟩)
        | 35, _ =>
          intro aq W hSW hf
          have v41 : aq.tmps[41]? = some (.bool false) := hf.val 24 41 (by kernel_rfl) rfl
          have v46 : aq.tmps[46]? = some (.agg e.att.cells.toArray) := hf.val 29 46 (by kernel_rfl) rfl
          have v51 : aq.tmps[51]? = some (.agg e.att.cells.toArray) := hf.val 34 51 (by kernel_rfl) rfl
          clear hf
          refine wpOp_flow rfl (wanted_of rfl rfl v41) (fun Kq hK => ?_)
          go_simp
          refine (H20.out W hSW).mono ?_
          rintro e1 w19 ⟨rfl, B19⟩
          exact hK _ _ ⟨rfl, hSW.trans (B19.mono hSW.size)⟩
        | 36, _ =>
          intro aq W hSW hf
          have v41 : aq.tmps[41]? = some (.bool false) := hf.val 24 41 (by kernel_rfl) rfl
          have v52 : aq.tmps[52]? = some (.bool true) := hf.val 35 52 (by kernel_rfl) rfl
          clear hf
          refine wpOp_flow rfl (wanted_of rfl rfl v41) (fun Kq hK => ?_)
          go_simp
          exact hK _ _ ⟨rfl, hSW⟩
        | 37, _ =>
          intro aq W hSW hf
          have v41 : aq.tmps[41]? = some (.bool false) := hf.val 24 41 (by kernel_rfl) rfl
          have v53 : aq.tmps[53]? = some (.bool false) := hf.val 36 53 (by kernel_rfl) rfl
          clear hf
          refine wpOp_flow rfl (by rfl) (fun Kq hK => ?_)
          go_simp
          exact hK _ _ ⟨rfl, hSW⟩
        | kq + 38, hk => exact absurd hk (by first | omega | (intro h; simp at h; omega))
      · simp only [puts, Act.put, List.setIfInBounds_toArray, List.set_cons_zero, List.set_cons_succ]
        have HB2 := hidp (HB.out.trans (hSW.mono HB.out.size))
        clear hSW
        go_wp2
        go_roundw
        case rel => exact ⟨j + 1, by omega, by go_num, HB2⟩
        case measure => simp [intOf]; omega
    · have l1 : ¬ (j : Int) < (n : Int) := by omega
      obtain rfl : j = n := by omega
      go_wp2
      go_ret
      exact ⟨rfl, HB.out⟩
end Go.Proofs.Ytnenpfalhbbadaa
