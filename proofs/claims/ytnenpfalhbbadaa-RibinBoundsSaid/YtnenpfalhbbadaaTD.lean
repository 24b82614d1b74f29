/- The document's Has. -/
import Derived.Test.YtnenpfalhbbadaaTC
namespace Go.Proofs.Ytnenpfalhbbadaa
open Go.RowKit

set_option maxRecDepth 100000 in
set_option maxHeartbeats 2000000 in
theorem has_any (a : Option Addr) (n c : Nat) (l : List Pf) (p : Pf) (w : World) (hl : PfsV w a n l) (hn : n ≤ 1000) :
    Calls Try.prog 21 #[.slice a n c, p.val] w fun e w' => e = .returned (.bool (decide (p ∈ l))) ∧ Below w.heap.size w w' := by
  have hb := (Below.refl w.heap.size w).alloc (Nat.le_refl _) (.cells #[.int .u32 (p.a : Int), .int .i64 p.l] 44)
  have HL := hidp (hl.below hb)
  have HB := hidp hb
  have K0 := hidp (heap_alloc_new w (.cells #[.int .u32 (p.a : Int), .int .i64 p.l] 44))
  have hpv : p.val = .agg #[.int .u32 (p.a : Int), .int .i64 p.l] := rfl
  rw [hpv]
  clear hb hl hpv
  go_enter Try.func21, Try.ntmps21
  go_upto_region 1 with (fail)
  change Code.wp Try.prog _ _ _ (w.alloc (.cells #[.int .u32 (p.a : Int), .int .i64 p.l] 44))
  generalize w.alloc (.cells #[.int .u32 (p.a : Int), .int .i64 p.l] 44) = w0 at *
  go_wp2
  go_loopw [5] (fun i wr => ∃ j : Nat, j ≤ n ∧ i = .int .i64 (j : Int) ∧ Hid (p ∉ l.take j) ∧ Hid (Below w0.heap.size w0 wr)) (fun i _ => n - (intOf i).toNat)
  case atStart => exact ⟨0, by omega, rfl, (show p ∉ l.take 0 by simp), Below.refl _ _⟩
  case round =>
    obtain ⟨j, hj, rfl, HP, HB1⟩ := hrel
    by_cases hlt : j < n
    · have l1 : (j : Int) < (n : Int) := by omega
      have hL := HL.out.below HB1.out
      obtain ⟨g, o, rfl, hrw⟩ := hL.row (by omega)
      have hjl : j < l.length := by rw [hL.2.1]; exact hlt
      obtain ⟨c0, c1⟩ := hrw j hjl
      have k := heap_below HB1.out K0.out (ltOf K0.out)
      have d0 := cellOf k 0 (v := .int .u32 (p.a : Int)) rfl
      have d1 := cellOf k 1 (v := .int .i64 p.l) rfl
      have HY := hidp (show l[j] = p → p ∈ l from fun h => by rw [← h]; exact List.getElem_mem hjl)
      have HN := hidp (show l[j] ≠ p → p ∉ l.take (j + 1) from fun h hx => by
        rw [List.take_succ_eq_append_getElem hjl] at hx
        rcases List.mem_append.1 hx with hx | hx
        · exact HP.out hx
        · simp at hx; exact h hx.symm)
      generalize l[j] = q at *
      have hE : ∀ w, (Op.equalIn 10000 44 (.agg #[.int .u32 (q.a : Int), .int .i64 q.l]) (.agg #[.int .u32 (p.a : Int), .int .i64 p.l])).run Try.prog w = .ok (decide (q = p)) w := equal44 q p
      have HB2 := hidp (HB1.out.trans ((Below.refl wr.heap.size wr).drew.mono HB1.out.size))
      clear hL hrw k hjl
      by_cases hq : q = p
      · have HQ := hidp (HY.out hq)
        simp only [decide_eq_true hq] at hE
        clear hq HY HN
        go_wp2_with fail
        go_region
        go_wp2
        go_ret
        exact ⟨by rw [decide_eq_true HQ.out]; rfl, HB.out.trans (HB2.out.mono HB.out.size)⟩
      · have HQ := hidp (HN.out hq)
        simp only [decide_eq_false hq] at hE
        clear hq HY HN
        go_wp2_with fail
        go_region
        go_wp2
        go_roundw
        case rel => exact ⟨j + 1, by omega, by go_num, HQ, HB2⟩
        case measure => simp [intOf]; omega
    · have l1 : ¬ (j : Int) < (n : Int) := by omega
      obtain rfl : j = n := by omega
      have hp := HP.out
      rw [List.take_of_length_le (by rw [HL.out.2.1]; omega)] at hp
      have HPP := hidp hp
      clear hp
      go_wp2
      go_ret
      exact ⟨by rw [decide_eq_false HPP.out]; rfl, HB.out.trans (HB1.out.mono HB.out.size)⟩
end Go.Proofs.Ytnenpfalhbbadaa
