/- The document's Update of no routes, where there is no room. -/
import Derived.Test.YtnenpfalhbbadaaRB
import Derived.Test.YtnenpfalhbbadaaKF
namespace Go.Proofs.Ytnenpfalhbbadaa
open Go.RowKit

structure N15 (w : World) (u : Upd) (W : World) : Prop where
  bel : Below w.heap.size w W
  box : W.heap[w.heap.size]? = some (.cells u.cells.toArray 39 (0, 0))
  at_ : u.at W
theorem N15.below {w W W' : World} {u : Upd} (h : N15 w u W) (hB : Below W.heap.size W W') : N15 w u W' := ⟨h.bel.trans (hB.mono h.bel.size), heap_below hB h.box (ltOf h.box), h.at_.below hB⟩
set_option maxRecDepth 100000 in
set_option maxHeartbeats 4000000 in
theorem upd16_nil (u : Upd) (w : World) (hu : u.at w) (hg : u.gn ≤ 1000) (hn : u.nn ≤ 1000) : Calls Try.prog 15 #[.slice none 0 0, u.val, .int .i64 0] w fun e w' => e = .returned (.tuple #[.slice none 0 0, .bool (u.news.any rightF)]) ∧ Below w.heap.size w w' := by
  have hb := (Below.refl w.heap.size w).alloc (Nat.le_refl _) (.cells u.cells.toArray 39)
  have H0 := hidp (N15.mk hb (heap_alloc_new w _) (hu.below hb))
  have huv : u.val = .agg u.cells.toArray := rfl
  rw [huv]
  clear hb hu huv
  go_enter Try.func15, Try.ntmps15
  go_upto_region 1 with (fail)
  change Code.wp Try.prog _ _ _ (w.alloc (.cells u.cells.toArray 39))
  generalize w.alloc (.cells u.cells.toArray 39) = w0 at *
  go_wp2
  go_loopw [8, 9] (fun x i wr => ∃ j : Nat, j ≤ u.gn ∧ x = .slice none 0 0 ∧ i = .int .i64 (j : Int) ∧ Hid (N15 w u wr)) (fun _ i _ => u.gn - (intOf i).toNat)
  case atStart => exact ⟨0, by omega, rfl, rfl, H0.out⟩
  case round =>
    obtain ⟨j, hj, rfl, rfl, HN⟩ := hrel
    have k0 := cellOf HN.out.box 0 (v := .slice u.ga u.gn u.gc) rfl
    have k12 := cellOf HN.out.box 12 (v := .slice u.na u.nn u.nc) rfl
    by_cases hlt : j < u.gn
    · have l1 : (j : Int) < (u.gn : Int) := by omega
      obtain ⟨g, o, eg, hrw⟩ := HN.out.at_.gone.row (by omega)
      have hjl : j < u.gone.length := by rw [HN.out.at_.gone.2.1]; exact hlt
      obtain ⟨c0, c1⟩ := hrw j hjl
      generalize u.gone[j] = p at *
      rw [eg] at k0
      have HD := hidp (fun W => drop_nil none 0 p W)
      have hpv : p.val = .agg #[.int .u32 (p.a : Int), .int .i64 p.l] := rfl
      rw [hpv] at HD
      clear hrw hpv
      go_wp2_with (go_at_call 31; go_must (
        refine (HD.out _).mono ?_
        rintro e w2 ⟨rfl, B2⟩
        have HN2 := hidp (HN.out.below B2)
        clear B2 k0 k12 c0 c1))
      go_roundw
      case rel => exact ⟨j + 1, by omega, rfl, by go_num, HN2⟩
      case measure => simp [intOf]; omega
    · have l1 : ¬ (j : Int) < (u.gn : Int) := by omega
      obtain rfl : j = u.gn := by omega
      clear hlt hj
      go_wp2
      clear k0 k12
      go_loopw [8, 10] (fun x i wr => ∃ j : Nat, j ≤ u.nn ∧ x = .slice none 0 0 ∧ i = .int .i64 (j : Int) ∧ Hid ((u.news.take j).any rightF = false) ∧ Hid (N15 w u wr)) (fun _ i _ => u.nn - (intOf i).toNat)
      case atStart => exact ⟨0, by omega, rfl, rfl, rfl, HN⟩
      case round =>
        clear HN
        obtain ⟨j, hj, rfl, rfl, HA, HN⟩ := hrel
        have k12 := cellOf HN.out.box 12 (v := .slice u.na u.nn u.nc) rfl
        by_cases hlt : j < u.nn
        · have l1 : (j : Int) < (u.nn : Int) := by omega
          obtain ⟨g, o, eg, hrw⟩ := HN.out.at_.news.row (by omega)
          have hjl : j < u.news.length := by rw [HN.out.at_.news.2.1]; exact hlt
          obtain ⟨c0, c1⟩ := hrw j hjl
          have hok := HN.out.at_.news.2.2 _ (List.getElem_mem hjl)
          have HT := hidp (show (u.news.take (j + 1)).any rightF = rightF u.news[j] by rw [List.take_succ_eq_append_getElem hjl, List.any_append, HA.out]; simp)
          have HY := hidp (show rightF u.news[j] = true → u.news.any rightF = true from fun h => List.any_eq_true.2 ⟨_, List.getElem_mem hjl, h⟩)
          generalize u.news[j] = p at *
          rw [eg] at k12
          have HG := hidp (fun W => get_nil none 0 p W)
          have HR := hidp (fun W => right2_any p hok W)
          have hpv : p.val = .agg #[.int .u32 (p.a : Int), .int .i64 p.l] := rfl
          have hav : att0.val = .agg att0.cells.toArray := rfl
          have hi0 : Hid ((Try.prog.info? 37).map (·.size) = some att0.cells.toArray.size) := Try.info37
          rw [hpv] at HG HR
          rw [hav] at HG
          have hb1 := (Below.refl wr.heap.size wr).alloc (Nat.le_refl _) (.cells #[.int .u32 (p.a : Int), .int .i64 p.l] 44)
          have HN1 := hidp (HN.out.below hb1)
          have K1 := hidp (heap_alloc_new wr (.cells #[.int .u32 (p.a : Int), .int .i64 p.l] 44))
          clear hrw hpv hok hav hb1
          go_upto_region 10 with (fail)
          change Code.wp Try.prog _ _ _ (wr.alloc (.cells #[.int .u32 (p.a : Int), .int .i64 p.l] 44))
          generalize wr.alloc (.cells #[.int .u32 (p.a : Int), .int .i64 p.l] 44) = w1 at *
          have d0 := cellOf K1.out 0 (v := .int .u32 (p.a : Int)) rfl
          have d1 := cellOf K1.out 1 (v := .int .i64 p.l) rfl
          clear c0 c1 k12
          go_upto_region 11 with (first
            | (go_at_call 32; go_must (
               refine (HG.out _).mono ?_
               rintro e w2 ⟨rfl, B2⟩
               have HN2 := hidp (HN1.out.below B2)
               have K2 := hidp (heap_below B2 K1.out (ltOf K1.out))
               clear B2 d0 d1))
            | (with_reducible refine wpList_store_row rfl 37 (.tmp 12) (.tmp 45) rfl w2.heap.size att0.cells.toArray rfl rfl 37 _ (heap_alloc_new _ _) hi0.out rfl att0.all_one ?_
               rw [alloc_fill _ rfl]))
          have hb3 := (Below.refl w2.heap.size w2).alloc (Nat.le_refl _) (.cells att0.cells.toArray 37)
          have HN3 := hidp (HN2.out.below hb3)
          have K3 := hidp (heap_below hb3 K2.out (ltOf K2.out))
          clear hb3
          change Code.wp Try.prog _ _ _ (w2.alloc (.cells att0.cells.toArray 37))
          generalize w2.alloc (.cells att0.cells.toArray 37) = w3 at *
          have d0 := cellOf K3.out 0 (v := .int .u32 (p.a : Int)) rfl
          have d1 := cellOf K3.out 1 (v := .int .i64 p.l) rfl
          cases hr : rightF p with
          | false =>
            rw [hr] at HR HT
            clear HY
            go_wp2_with (go_at_call 33; go_must (
              refine (HR.out _).mono ?_
              rintro e w4 ⟨rfl, B4⟩
              have HN4 := hidp (HN3.out.below B4)
              clear B4 d0 d1))
            go_roundw
            case rel => exact ⟨j + 1, by omega, rfl, by go_num, HT, HN4⟩
            case measure => simp [intOf]; omega
          | true =>
            have HYY := hidp (HY.out hr)
            rw [hr] at HR
            clear HY HT
            go_wp2_with (go_at_call 33; go_must (
              refine (HR.out _).mono ?_
              rintro e w4 ⟨rfl, B4⟩
              have HN4 := hidp (HN3.out.below B4)
              clear B4 d0 d1))
            go_ret2
            exact ⟨by rw [HYY.out]; rfl, HN4.out.bel⟩
        · have l1 : ¬ (j : Int) < (u.nn : Int) := by omega
          obtain rfl : j = u.nn := by omega
          have hA := HA.out
          rw [List.take_of_length_le (by rw [HN.out.at_.news.2.1]; omega)] at hA
          have HAA := hidp hA
          clear hA
          go_wp2
          go_ret2
          exact ⟨by rw [HAA.out]; rfl, HN.out.bel⟩
end Go.Proofs.Ytnenpfalhbbadaa
