/- differ. -/
import Derived.Test.YtnenpfalhbbadaaQF
namespace Go.Proofs.Ytnenpfalhbbadaa
open Go.RowKit

theorem filter_snoc (p : Pf → Bool) (L : List Pf) (j : Nat) (h : j < L.length) : (L.take (j + 1)).filter p = (L.take j).filter p ++ if p L[j] then [L[j]] else [] := by
  rw [List.take_add_one, List.getElem?_eq_getElem h, List.filter_append]
  congr 1
  cases hp : p L[j] <;> simp [hp]
structure DJ (w0 : World) (f : Pf → Bool) (l : List Pf) (j : Nat) (o : Value) (W : World) : Prop where
  bel : Below w0.heap.size w0 W
  out : W.ownsRow w0.heap.size 44 2 o ((l.take j).filter f).length (((l.take j).filter f).flatMap Pf.cells)
theorem DJ.below {w0 W W' : World} {f : Pf → Bool} {l : List Pf} {j : Nat} {o : Value} (h : DJ w0 f l j o W) (hB : Below W.heap.size W W') : DJ w0 f l j o W' :=
  ⟨h.bel.trans (hB.mono h.bel.size), ownsRow_below h.out hB (Nat.le_refl _)⟩
theorem DJ.no {w0 W : World} {f : Pf → Bool} {l : List Pf} {j : Nat} {o : Value} (h : DJ w0 f l j o W) (hj : j < l.length) (hf : f l[j] = false) : DJ w0 f l (j + 1) o W := by
  have e := filter_snoc f l j hj
  rw [hf] at e
  simp only [Bool.false_eq_true, if_false, List.append_nil] at e
  exact ⟨h.bel, by rw [e]; exact h.out⟩
theorem DJ.yes {w0 W W' : World} {f : Pf → Bool} {l : List Pf} {j : Nat} {o o' : Value} (h : DJ w0 f l j o W) (hj : j < l.length) (hf : f l[j] = true)
    (ho : W'.ownsRow w0.heap.size 44 2 o' (((l.take j).filter f).length + 1) (((l.take j).filter f).flatMap Pf.cells ++ l[j].cells)) (hg : W.grownBy W' o.ownBlock) : DJ w0 f l (j + 1) o' W' := by
  have e := filter_snoc f l j hj
  rw [hf, if_pos rfl] at e
  refine ⟨h.bel.grown hg h.bel.size fun g hg => ?_, ?_⟩
  · obtain ⟨_, ⟨hv, _⟩ | ⟨g', cap, cur, hv, hb, _⟩⟩ := h.out
    · rw [hv] at hg; cases hg
    · rw [hv] at hg; cases hg; exact hb
  · rw [e, List.length_append, List.flatMap_append]
    simpa using ho
theorem news_two (w : World) (p : Pf) : ∀ j u, p.cells[j]? = some u → (w.alloc (.cells #[.int .u32 (p.a : Int), .int .i64 p.l] 44)).cell? ((⟨w.heap.size, 0, none⟩ : Addr).add j) = some u := by
  intro j u hu
  rw [Addr.add_lit, Nat.zero_add]
  exact cellOf (heap_alloc_new w _) _ (by simpa [Pf.cells] using hu)
theorem pf_ones (p : Pf) : ∀ u ∈ p.cells, u.oneCell' = true := by
  intro u hu
  simp [Pf.cells] at hu
  rcases hu with rfl | rfl <;> rfl

set_option maxRecDepth 100000 in
set_option maxHeartbeats 4000000 in
theorem differ_any (H45 : Same45) (wA : World) (bo bn : Nat) (tO tN : Tr) (nO nN : Int) (a : Option Addr) (nn c : Nat) (l : List Pf) (w : World) (hO : TrieAt wA w bo tO nO) (hN : TrieAt wA w bn tN nN) (hl : PfsV w a nn l) (hnn : nn ≤ 1000) (hwA : Below wA.heap.size wA w) :
    Calls Try.prog 28 #[.pointer (some ⟨bo, 0, none⟩), .pointer (some ⟨bn, 0, none⟩), .slice a nn c] w fun e w' => DiffE (otherA tO.ab tN.ab) l e w' ∧ Below w.heap.size w w' := by
  obtain ⟨i0, hi0, hz0, hz1, hz2⟩ := info_parts Try.infos44
  obtain ⟨f, hf⟩ : ∃ f, f = otherA tO.ab tN.ab := ⟨_, rfl⟩
  rw [← hf]
  have HF := hidp hf
  have hb := ((Below.refl w.heap.size w).alloc (Nat.le_refl _) (.cells #[.pointer (some ⟨bo, 0, none⟩)] 50)).alloc (by simp) (.cells #[.pointer (some ⟨bn, 0, none⟩)] 50)
  have k0 : ((w.alloc (.cells #[.pointer (some ⟨bo, 0, none⟩)] 50)).alloc (.cells #[.pointer (some ⟨bn, 0, none⟩)] 50)).heap[w.heap.size]? = some (.cells #[.pointer (some ⟨bo, 0, none⟩)] 50 (0, 0)) := heap_alloc_at (heap_alloc_new w _) _
  have k1 : ((w.alloc (.cells #[.pointer (some ⟨bo, 0, none⟩)] 50)).alloc (.cells #[.pointer (some ⟨bn, 0, none⟩)] 50)).heap[w.heap.size + 1]? = some (.cells #[.pointer (some ⟨bn, 0, none⟩)] 50 (0, 0)) := heap_alloc_top _ _ _ (by simp)
  have hO1 := hO.below hb
  have hN1 := hN.below hb
  have hl1 := hl.below hb
  have hw1 := hwA.trans (hb.mono hwA.size)
  have hmf : ∀ (fn : Fn) (first cap : Array Value) (w : World), (Instr.makeFunc fn first cap).run Try.prog w = .ok (.func fn first cap) w := fun _ _ _ _ => rfl
  have e44 : Hid (∀ args w, (callFunc 44 args).run Try.prog w = .ok (.enter 44 args) w) := fun args w => enters_fn Try.func44 (by kernel_rfl) rfl args w
  have HLN := hidp hl.2.1
  have HH := hidp H45
  clear hO hN hl hwA hf H45
  go_enter Try.func28, Try.ntmps28
  go_upto_region 1 with (fail)
  change Code.wp Try.prog _ _ _ ((w.alloc (.cells #[.pointer (some ⟨bo, 0, none⟩)] 50)).alloc (.cells #[.pointer (some ⟨bn, 0, none⟩)] 50))
  generalize (w.alloc (.cells #[.pointer (some ⟨bo, 0, none⟩)] 50)).alloc (.cells #[.pointer (some ⟨bn, 0, none⟩)] 50) = w0 at *
  have HB := hidp hb
  have HOT := hidp (fun p (hp : p.ok) W (hW : Below w0.heap.size w0 W) => other_any HH.out wA bo bn tO tN nO nN w.heap.size (w.heap.size + 1) p hp W (hO1.below hW) (hN1.below hW) (below_cell hW (Nat.le_refl _) _ _ (cellOf k0 0 (v := .pointer (some ⟨bo, 0, none⟩)) rfl)) (below_cell hW (Nat.le_refl _) _ _ (cellOf k1 0 (v := .pointer (some ⟨bn, 0, none⟩)) rfl)) (hw1.trans (hW.mono hw1.size)))
  rw [← HF.out] at HOT
  have HL := hidp hl1
  clear hb k0 k1 hO1 hN1 hl1 hw1 HF
  go_wp2
  go_loopw [8, 14] (fun o i wr => ∃ j : Nat, j ≤ nn ∧ i = .int .i64 j ∧ Hid (DJ w0 f l j o wr)) (fun _ i _ => nn - (intOf i).toNat)
  case atStart => exact ⟨0, by omega, rfl, Below.refl _ _, World.ownsRow_nil _ _ _ _⟩
  case round =>
    obtain ⟨j, hj, rfl, HD⟩ := hrel
    by_cases hlt : j < nn
    · have l1 : (j : Int) < (nn : Int) := by omega
      obtain ⟨g, o, rfl, hrw⟩ := (HL.out.below HD.out.bel).row (by omega)
      have hjl : j < l.length := by rw [HLN.out]; exact hlt
      obtain ⟨c0, c1⟩ := hrw j hjl
      have hok := HL.out.2.2 _ (List.getElem_mem hjl)
      have HY := hidp (fun (o' : Value) (W W' : World) (h : DJ w0 f l j u8 W) => h.yes (o' := o') (W' := W') hjl)
      have HNO := hidp (fun (W : World) (h : DJ w0 f l j u8 W) => h.no hjl)
      have HLE := hidp (show ((l.take j).filter f).length ≤ 1000 by have := List.length_filter_le f (l.take j); rw [List.length_take] at this; omega)
      generalize l[j] = p at *
      have HP := hidp (HOT.out p hok)
      have hpv : p.val = .agg #[.int .u32 (p.a : Int), .int .i64 p.l] := rfl
      rw [hpv] at HP
      have HB1 := hidp ((Below.refl wr.heap.size wr).alloc (Nat.le_refl _) (.cells #[.int .u32 (p.a : Int), .int .i64 p.l] 44))
      have HK1 := hidp (heap_alloc_new wr (.cells #[.int .u32 (p.a : Int), .int .i64 p.l] 44))
      clear hrw hpv hok
      go_upto_region 6 with (fail)
      have hD1 := HD.out.below HB1.out
      change Code.wp Try.prog _ _ _ (wr.alloc (.cells #[.int .u32 (p.a : Int), .int .i64 p.l] 44))
      generalize wr.alloc (.cells #[.int .u32 (p.a : Int), .int .i64 p.l] 44) = w1 at *
      have d0 := cellOf HK1.out 0 (v := .int .u32 (p.a : Int)) rfl
      have d1 := cellOf HK1.out 1 (v := .int .i64 p.l) rfl
      have HD1 := hidp hD1
      clear hD1 c0 c1
      have e44' := e44.out
      go_wp2_with fail
      refine (HP.out w1 HD1.out.bel).mono ?_
      rintro e w2 ⟨rfl, B2⟩
      have HD2 := hidp (HD1.out.below B2)
      have k2 := heap_below B2 HK1.out (ltOf HK1.out)
      have d0 := cellOf k2 0 (v := .int .u32 (p.a : Int)) rfl
      have d1 := cellOf k2 1 (v := .int .i64 p.l) rfl
      have HD3 := hidp (HD2.out.below ((Below.refl w2.heap.size w2).alloc (Nat.le_refl _) (.cells #[.int .u32 (p.a : Int), .int .i64 p.l] 44)))
      clear B2 k2
      cases hfp : f p with
      | false =>
        have HN := hidp (HNO.out _ HD2.out hfp)
        clear d0 d1
        go_wp2
        go_roundw
        case rel => exact ⟨j + 1, by omega, by go_num, HN⟩
        case measure => simp [intOf]; omega
      | true =>
        have HLE2 := HLE.out
        go_wp2_with (at_builtin
                     change wpList _ _ _ _ _ (w2.alloc (.cells #[.int .u32 (p.a : Int), .int .i64 p.l] 44))
                     refine wpList_append_own_at (w2.alloc (.cells #[.int .u32 (p.a : Int), .int .i64 p.l] 44)) rfl (.tmp 21) (.tmp 23) 29 rfl w0.heap.size 44 i0 zero44v 2 16 Try.underlying29 hi0 hz0 hz1 hz2 rfl (by omega) u8 _ _ rfl HD3.out.out ⟨w2.heap.size, 0, none⟩ 1 1 p.cells rfl rfl (news_two w2 p) (pf_ones p) (by simp only [maxLen]; omega) (by omega) HD3.out.bel.size ?_
                     intro o4 w4 hown4 hg4 _ hat4
                     have HN := hidp (HY.out o4 _ w4 HD3.out hfp hown4 hg4)
                     clear hown4 hg4 hat4)
        go_roundw
        case rel => exact ⟨j + 1, by omega, by go_num, HN⟩
        case measure => simp [intOf]; omega
    · have l1 : ¬ (j : Int) < (nn : Int) := by omega
      have ho := HD.out.out
      rw [List.take_of_length_le (by rw [HLN.out]; omega)] at ho
      have hB2 := HD.out.bel
      have HOKS := hidp HL.out.2.2
      have HL1000 : Hid (l.length ≤ 1000) := by have := HLN.out; show l.length ≤ 1000; omega
      rcases Nat.eq_zero_or_pos (l.filter f).length with h0 | h0
      · have hd0 : diffL f l = [] := by
          unfold diffL
          rw [List.eq_nil_of_length_eq_zero h0, show sortP [] = [] by simp [sortP]]
          rfl
        obtain ⟨a8, c8, h8⟩ := ownsRow_slice ho
        rw [h0] at h8
        have hcc : c8 ≤ maxLen := by
          obtain ⟨_, ⟨hv, _⟩ | ⟨g', cap, cur, hv, hb, _, _, hm, _⟩⟩ := ho
          · rw [hv] at h8; injection h8 with _ _ e3; rw [← e3]; unfold maxLen; omega
          · rw [hv] at h8; injection h8 with _ _ e3; rw [← e3]; exact hm
        have HCC := hidp hcc
        have HD0 := hidp hd0
        subst h8
        clear ho hcc hd0
        go_wp2_with (first
          | (go_at_call 46; refine (sort_none c8 a8 _ _).mono ?_; rintro e w9 ⟨rfl, h9⟩; rw [h9]; clear h9)
          | (go_at_call 48; refine (compact_none a8 c8 _).mono ?_; rintro e w9 ⟨rfl, h9⟩; rw [h9]; clear h9))
        go_ret
        refine ⟨⟨a8, c8, by rw [HD0.out]; rfl, by rw [HD0.out]; exact ⟨⟨rfl, fun h => absurd h (by simp)⟩, rfl, fun p h => absurd h (by simp)⟩, by rw [HD0.out]; exact Nat.zero_le _, HCC.out⟩, HB.out.trans (hB2.mono HB.out.size)⟩
      · obtain ⟨a8, c8, h8⟩ := ownsRow_slice ho
        have ha8 : ∃ g, a8 = some ⟨g, 0, none⟩ := by
          obtain ⟨_, ⟨hv, hz⟩ | ⟨g', cap, cur, hv, _⟩⟩ := ho
          · omega
          · rw [hv] at h8; cases h8; exact ⟨g', rfl⟩
        obtain ⟨g8, rfl⟩ := ha8
        subst h8
        have HO := hidp ho
        obtain ⟨m, hm⟩ : ∃ m, m = (l.filter f).length := ⟨_, rfl⟩
        rw [← hm] at HO
        have HS := hidp (settle_sort f l HL1000.out w0.heap.size w0 g8 m c8 wr hB2 HO.out)
        clear ho
        rw [← hm]
        clear hm h0
        go_wp2_with (first
          | (go_at_call 46; refine HS.out.mono ?_; rintro e w9 ⟨rfl, h9⟩; have HW := hidp h9; clear h9)
          | (go_at_call 48; refine (settle_comp f l HL1000.out HOKS.out w0.heap.size w0 g8 m c8 w9 HW.out).mono ?_; rintro e w10 ⟨⟨a10, c10, rfl, h10⟩, B10⟩; have H10 := hidp h10; have HB10 := hidp B10; clear h10 B10))
        go_ret
        exact ⟨⟨a10, c10, rfl, H10.out⟩, HB.out.trans (HB10.out.mono HB.out.size)⟩
end Go.Proofs.Ytnenpfalhbbadaa
