/- The document's Update. -/
import Derived.Test.YtnenpfalhbbadaaVB
import Derived.Test.YtnenpfalhbbadaaRC
namespace Go.Proofs.Ytnenpfalhbbadaa
open Go.RowKit

/-- routes and whether one was refused, that a call yields -/
def EnE2 (wA : World) (r : List En × Bool) (e : Ending) (W : World) : Prop := ∃ (a : Option Addr) (c : Nat), e = .returned (.tuple #[.slice a r.1.length c, .bool r.2]) ∧ EnsV wA W a r.1.length r.1
theorem delR_len : ∀ (l : List Pf) (E : List En), (delR E l).length ≤ E.length
  | [], E => Nat.le_refl _
  | p :: r, E => by rw [delR]; exact Nat.le_trans (delR_len r _) (dropL_len E p)
theorem putR_le (x : En) (E : List En) : (putR x false E).length ≤ E.length + 1 := by rw [putR_len]; have := dropL_len E x.p; omega
set_option maxRecDepth 100000 in
set_option maxHeartbeats 16000000 in
theorem upd16_any (wA : World) (a : Option Addr) (n c : Nat) (E : List En) (u : Upd) (lim : Int) (w : World) (hE : EnsV wA w a n E) (hu : u.at w) (hua : u.att.at wA) (hg : u.gn ≤ 1000) (hn : n + u.nn ≤ 1000) :
    Calls Try.prog 15 #[.slice a n c, u.val, .int .i64 lim] w fun e w' => EnE2 wA (updR E u lim) e w' ∧ Below w.heap.size w w' := by
  have hb := (Below.refl w.heap.size w).alloc (Nat.le_refl _) (.cells u.cells.toArray 39)
  have H0 := hidp (N15.mk hb (heap_alloc_new w _) (hu.below hb))
  have HE0 := hidp (hE.below hb)
  have HUA := hidp hua
  have huv : u.val = .agg u.cells.toArray := rfl
  rw [huv]
  clear hb hu huv hE hua
  go_enter Try.func15, Try.ntmps15
  go_upto_region 1 with (fail)
  change Code.wp Try.prog _ _ _ (w.alloc (.cells u.cells.toArray 39))
  generalize w.alloc (.cells u.cells.toArray 39) = w0 at *
  go_wp2
  go_loopw [8, 9] (fun x i wr => ∃ (j : Nat) (a8 : Option Addr) (n8 c8 : Nat) (D : List En), j ≤ u.gn ∧ x = .slice a8 n8 c8 ∧ i = .int .i64 (j : Int) ∧ n8 ≤ n ∧ Hid (EnsV wA wr a8 n8 D) ∧ Hid (delR D (u.gone.drop j) = delR E u.gone) ∧ Hid (N15 w u wr)) (fun _ i _ => u.gn - (intOf i).toNat)
  case atStart => exact ⟨0, a, n, c, E, by omega, rfl, rfl, Nat.le_refl _, HE0.out, rfl, H0.out⟩
  case round =>
    obtain ⟨j, a8, n8, c8, D, hj, rfl, rfl, hn8, HD, HR, HN⟩ := hrel
    have k0 := cellOf HN.out.box 0 (v := .slice u.ga u.gn u.gc) rfl
    have k12 := cellOf HN.out.box 12 (v := .slice u.na u.nn u.nc) rfl
    by_cases hlt : j < u.gn
    · have l1 : (j : Int) < (u.gn : Int) := by omega
      obtain ⟨g, o, eg, hrw⟩ := HN.out.at_.gone.row (by omega)
      have hjl : j < u.gone.length := by rw [HN.out.at_.gone.2.1]; exact hlt
      obtain ⟨c0, c1⟩ := hrw j hjl
      have hdr : u.gone.drop j = u.gone[j] :: u.gone.drop (j + 1) := List.drop_eq_getElem_cons hjl
      generalize u.gone[j] = p at *
      rw [hdr] at HR
      rw [eg] at k0
      have HD31 := hidp (drop16_any wA a8 n8 c8 D p wr HD.out (by omega))
      have hpv : p.val = .agg #[.int .u32 (p.a : Int), .int .i64 p.l] := rfl
      rw [hpv] at HD31
      have HLN := hidp (show (dropL D p).length ≤ n by have := dropL_len D p; rw [HD.out.len] at this; omega)
      clear hrw hpv hdr hjl
      go_wp2_with (go_at_call 31; go_must (
        refine HD31.out.mono ?_
        rintro e w2 ⟨⟨a9, c9, rfl, hD9⟩, B2⟩
        have HN2 := hidp (HN.out.below B2)
        have HD9 := hidp hD9
        clear B2 hD9 k0 k12 c0 c1))
      go_roundw
      case rel => exact ⟨j + 1, a9, _, c9, dropL D p, by omega, rfl, by go_num, HLN.out, HD9, HR, HN2⟩
      case measure => simp [intOf]; omega
    · have l1 : ¬ (j : Int) < (u.gn : Int) := by omega
      have hjn : j = u.gn := by omega
      have hR := HR.out
      rw [List.drop_of_length_le (by rw [HN.out.at_.gone.2.1]; omega)] at hR
      have hRR : D = delR E u.gone := hR
      have HUP := hidp (show updR E u lim = putRL u.att lim D u.news by unfold updR; rw [← hRR])
      clear hlt hj hR hRR HR
      go_wp2
      clear k0 k12
      go_loopw [8, 10] (fun x i wr => ∃ (j : Nat) (a8 : Option Addr) (n8 c8 : Nat) (O : List En), j ≤ u.nn ∧ x = .slice a8 n8 c8 ∧ i = .int .i64 (j : Int) ∧ n8 ≤ n + j ∧ Hid (EnsV wA wr a8 n8 O) ∧ Hid (putRL u.att lim O (u.news.drop j) = putRL u.att lim D u.news) ∧ Hid (N15 w u wr)) (fun _ i _ => u.nn - (intOf i).toNat)
      case atStart => exact ⟨0, a8, n8, c8, D, by omega, rfl, rfl, by omega, HD, rfl, HN⟩
      case round =>
        clear HN HD hn8
        obtain ⟨j, a8, n8, c8, O, hj, rfl, rfl, hn8, HO, HR, HN⟩ := hrel
        have k12 := cellOf HN.out.box 12 (v := .slice u.na u.nn u.nc) rfl
        by_cases hlt : j < u.nn
        · have l1 : (j : Int) < (u.nn : Int) := by omega
          obtain ⟨g, o, eg, hrw⟩ := HN.out.at_.news.row (by omega)
          have hjl : j < u.news.length := by rw [HN.out.at_.news.2.1]; exact hlt
          obtain ⟨c0, c1⟩ := hrw j hjl
          have hok := HN.out.at_.news.2.2 _ (List.getElem_mem hjl)
          have hdr : u.news.drop j = u.news[j] :: u.news.drop (j + 1) := List.drop_eq_getElem_cons hjl
          generalize u.news[j] = p at *
          rw [hdr] at HR
          rw [eg] at k12
          obtain ⟨r, is, hgl⟩ : ∃ r is, getL O p = (r, is) := ⟨_, _, rfl⟩
          have HG := hidp (fun W (h : EnsV wA W a8 n8 O) => get16_any wA a8 n8 c8 O p W h (by omega))
          have HRT := hidp (fun W => right2_any p hok W)
          have HPU := hidp (fun W (h : EnsV wA W a8 n8 O) => put16_any wA a8 n8 c8 O ⟨p, 0, u.att⟩ ⟨hok, HUA.out⟩ W h (by omega))
          have hrl := HR.out
          rw [putRL, hgl] at hrl
          have hlO : O.length = n8 := HO.out.len
          rw [hlO] at hrl
          have HRL := hidp hrl
          have HPL := hidp (show (putR ⟨p, 0, u.att⟩ false O).length ≤ n + (j + 1) by have := putR_le ⟨p, 0, u.att⟩ O; omega)
          have hpv : p.val = .agg #[.int .u32 (p.a : Int), .int .i64 p.l] := rfl
          have hav : r.val = .agg r.cells.toArray := rfl
          have hi0 : Hid ((Try.prog.info? 37).map (·.size) = some r.cells.toArray.size) := Try.info37
          have hiu : Hid ((Try.prog.info? 37).map (·.size) = some u.att.cells.length) := Try.info37
          rw [hpv, hgl] at HG
          rw [hpv] at HRT
          simp only [hav] at HG
          have hb1 := (Below.refl wr.heap.size wr).alloc (Nat.le_refl _) (.cells #[.int .u32 (p.a : Int), .int .i64 p.l] 44)
          have HN1 := hidp (HN.out.below hb1)
          have HO1 := hidp (HO.out.below hb1)
          have K1 := hidp (heap_alloc_new wr (.cells #[.int .u32 (p.a : Int), .int .i64 p.l] 44))
          clear hrw hpv hok hav hb1 hdr hrl hgl hjl hlO HR
          go_upto_region 10 with (fail)
          change Code.wp Try.prog _ _ _ (wr.alloc (.cells #[.int .u32 (p.a : Int), .int .i64 p.l] 44))
          generalize wr.alloc (.cells #[.int .u32 (p.a : Int), .int .i64 p.l] 44) = w1 at *
          have d0 := cellOf K1.out 0 (v := .int .u32 (p.a : Int)) rfl
          have d1 := cellOf K1.out 1 (v := .int .i64 p.l) rfl
          clear c0 c1 k12
          go_upto_region 11 with (first
            | (go_at_call 32; go_must (
               refine (HG.out _ HO1.out).mono ?_
               rintro e w2 ⟨rfl, B2⟩
               have HN2 := hidp (HN1.out.below B2)
               have HO2 := hidp (HO1.out.below B2)
               have K2 := hidp (heap_below B2 K1.out (ltOf K1.out))
               clear B2 d0 d1))
            | (with_reducible refine wpList_store_row rfl 37 (.tmp 12) (.tmp 45) rfl w2.heap.size r.cells.toArray rfl rfl 37 _ (heap_alloc_new _ _) hi0.out rfl r.all_one ?_
               rw [alloc_fill _ rfl]))
          have hb3 := (Below.refl w2.heap.size w2).alloc (Nat.le_refl _) (.cells r.cells.toArray 37)
          have HN3 := hidp (HN2.out.below hb3)
          have HO3 := hidp (HO2.out.below hb3)
          have K3 := hidp (heap_below hb3 K2.out (ltOf K2.out))
          clear hb3
          change Code.wp Try.prog _ _ _ (w2.alloc (.cells r.cells.toArray 37))
          generalize w2.alloc (.cells r.cells.toArray 37) = w3 at *
          have d0 := cellOf K3.out 0 (v := .int .u32 (p.a : Int)) rfl
          have d1 := cellOf K3.out 1 (v := .int .i64 p.l) rfl
          cases hr : rightF p with
          | false =>
            rw [hr] at HRT
            have HF := hidp (show putRL u.att lim O (u.news.drop (j + 1)) = putRL u.att lim D u.news by rw [← HRL.out, if_neg (by rw [hr]; decide)])
            clear HRL hr
            go_wp2_with (go_at_call 33; go_must (
              refine (HRT.out _).mono ?_
              rintro e w4 ⟨rfl, B4⟩
              have HN4 := hidp (HN3.out.below B4)
              have HO4 := hidp (HO3.out.below B4)
              clear B4 d0 d1))
            go_roundw
            case rel => exact ⟨j + 1, a8, n8, c8, O, by omega, rfl, by go_num, by omega, HO4, HF, HN4⟩
            case measure => simp [intOf]; omega
          | true =>
            rw [hr] at HRT
            have HRL2 := hidp (show (if is = false ∧ lim ≤ (n8 : Int) then (O, true) else putRL u.att lim (putR ⟨p, 0, u.att⟩ false O) (u.news.drop (j + 1))) = putRL u.att lim D u.news by rw [← HRL.out, if_pos hr])
            clear HRL hr
            by_cases href : is = false ∧ lim ≤ (n8 : Int)
            · obtain ⟨rfl, hle⟩ := href
              have HQ := hidp (show (O, true) = putRL u.att lim D u.news by rw [← HRL2.out, if_pos ⟨rfl, hle⟩])
              clear HRL2
              go_wp2_with (go_at_call 33; go_must (
                refine (HRT.out _).mono ?_
                rintro e w4 ⟨rfl, B4⟩
                have HN4 := hidp (HN3.out.below B4)
                have HO4 := hidp (HO3.out.below B4)
                clear B4 d0 d1))
              go_ret2
              rw [HUP.out, ← HQ.out]
              exact ⟨⟨a8, c8, by rw [show (O, true).1.length = n8 from HO4.out.len]; rfl, by rw [show (O, true).1.length = n8 from HO4.out.len]; exact HO4.out⟩, HN4.out.bel⟩
            · have HF := hidp (show putRL u.att lim (putR ⟨p, 0, u.att⟩ false O) (u.news.drop (j + 1)) = putRL u.att lim D u.news by rw [← HRL2.out, if_neg href])
              have hl11 : u.att.cells.length = 11 := Att.len _
              have HATT := hidp (fun W (h : N15 w u W) => upd_att (o := 0) (range_of h.box))
              clear HRL2
              cases is with
              | true =>
                clear href
                go_wp2_with (first
                  | (go_at_call 33; go_must (
                     refine (HRT.out _).mono ?_
                     rintro e w4 ⟨rfl, B4⟩
                     have HN4 := hidp (HN3.out.below B4)
                     have HO4 := hidp (HO3.out.below B4)
                     have K4 := heap_below B4 K3.out (ltOf K3.out)
                     have e0 := cellOf K4 0 (v := .int .u32 (p.a : Int)) rfl
                     have e1 := cellOf K4 1 (v := .int .i64 p.l) rfl
                     clear B4 d0 d1 K4))
                  | (with_reducible refine wpList_load_mid rfl 37 (.tmp 61) rfl w.heap.size 1 rfl u.att.cells _ (HATT.out _ HN4.out) Try.underlying37 rfl hiu.out ?_)
                  | (go_at_call 34; go_must (
                     rw [foldEn]
                     refine (HPU.out _ HO4.out).mono ?_
                     rintro e w5 ⟨⟨a9, c9, rfl, hD9⟩, B5⟩
                     have HN5 := hidp (HN4.out.below B5)
                     have HD9 := hidp hD9
                     clear B5 hD9)))
                go_roundw
                case rel => exact ⟨j + 1, a9, _, c9, putR ⟨p, 0, u.att⟩ false O, by omega, rfl, by go_num, HPL.out, HD9, HF, HN5⟩
                case measure => simp [intOf]; omega
              | false =>
                have hlt2 : ¬ lim ≤ (n8 : Int) := fun h => href ⟨rfl, h⟩
                clear href
                go_wp2_with (first
                  | (go_at_call 33; go_must (
                     refine (HRT.out _).mono ?_
                     rintro e w4 ⟨rfl, B4⟩
                     have HN4 := hidp (HN3.out.below B4)
                     have HO4 := hidp (HO3.out.below B4)
                     have K4 := heap_below B4 K3.out (ltOf K3.out)
                     have e0 := cellOf K4 0 (v := .int .u32 (p.a : Int)) rfl
                     have e1 := cellOf K4 1 (v := .int .i64 p.l) rfl
                     clear B4 d0 d1 K4))
                  | (with_reducible refine wpList_load_mid rfl 37 (.tmp 61) rfl w.heap.size 1 rfl u.att.cells _ (HATT.out _ HN4.out) Try.underlying37 rfl hiu.out ?_)
                  | (go_at_call 34; go_must (
                     rw [foldEn]
                     refine (HPU.out _ HO4.out).mono ?_
                     rintro e w5 ⟨⟨a9, c9, rfl, hD9⟩, B5⟩
                     have HN5 := hidp (HN4.out.below B5)
                     have HD9 := hidp hD9
                     clear B5 hD9)))
                go_roundw
                case rel => exact ⟨j + 1, a9, _, c9, putR ⟨p, 0, u.att⟩ false O, by omega, rfl, by go_num, HPL.out, HD9, HF, HN5⟩
                case measure => simp [intOf]; omega
        · have l1 : ¬ (j : Int) < (u.nn : Int) := by omega
          have hR := HR.out
          rw [List.drop_of_length_le (by rw [HN.out.at_.news.2.1]; omega)] at hR
          have HQ := hidp (show (O, false) = putRL u.att lim D u.news from hR)
          clear hR
          go_wp2
          go_ret2
          rw [HUP.out, ← HQ.out]
          exact ⟨⟨a8, c8, by rw [show (O, false).1.length = n8 from HO.out.len]; rfl, by rw [show (O, false).1.length = n8 from HO.out.len]; exact HO.out⟩, HN.out.bel⟩
end Go.Proofs.Ytnenpfalhbbadaa
