/- attrs.Same: lists of numbers and of bytes are compared. -/
import Derived.Test.YtnenpfalhbbadaaPT
namespace Go.Proofs.Ytnenpfalhbbadaa
open Go.RowKit

set_option maxHeartbeats 2000000 in
theorem eq60_any (a b : Option Addr) (n m c d : Nat) (xs ys : List Int) (w : World) (hx : RowV w a n 1 (xs.map (Value.int .u32))) (hy : RowV w b m 1 (ys.map (Value.int .u32))) (hn : n ≤ 9223372036854775807) (hm : m ≤ 9223372036854775807) :
    Calls Try.prog 60 #[.slice a n c, .slice b m d] w fun e w' => e = .returned (.bool (decide (xs = ys))) ∧ Below w.heap.size w w' := by
  have hlx : xs.length = n := by simpa using hx.1
  have hly : ys.length = m := by simpa using hy.1
  have HX := hidp hx
  have HY := hidp hy
  clear hx hy
  by_cases hnm : n = m
  · subst hnm
    have HLX := hidp hlx
    have HLY := hidp hly
    clear hlx hly
    go_enter Try.func60, Try.ntmps60
    go_wp2
    go_loopw [13] (fun i wr => ∃ j : Nat, j ≤ n ∧ i = .int .i64 j ∧ Hid (xs.take j = ys.take j) ∧ Hid (Below w.heap.size w wr)) (fun i _ => n - (intOf i).toNat)
    case atStart => exact ⟨0, by omega, rfl, rfl, Below.refl _ _⟩
    case round =>
      obtain ⟨j, hj, rfl, HP, HB⟩ := hrel
      by_cases hlt : j < n
      · obtain ⟨g, o, rfl, hc⟩ := (HX.out.below HB.out).2 (by omega)
        obtain ⟨g', o', rfl, hc'⟩ := (HY.out.below HB.out).2 (by omega)
        have jx : j < xs.length := by rw [HLX.out]; exact hlt
        have jy : j < ys.length := by rw [HLY.out]; exact hlt
        have cx := hc j (.int .u32 xs[j]) (by simp [List.getElem?_eq_getElem jx])
        have cy := hc' j (.int .u32 ys[j]) (by simp [List.getElem?_eq_getElem jy])
        have HN := hidp (show xs[j] = ys[j] → xs.take (j + 1) = ys.take (j + 1) from fun h => by rw [List.take_add_one, List.take_add_one, HP.out, List.getElem?_eq_getElem jx, List.getElem?_eq_getElem jy, h])
        have HM := hidp (show xs[j] ≠ ys[j] → decide (xs = ys) = false from fun h => by simp; intro e; subst e; exact h rfl)
        generalize xs[j] = x at *
        generalize ys[j] = y at *
        have l1 : (j : Int) < (n : Int) := by omega
        have HB2 := hidp (HB.out.trans ((Below.refl wr.heap.size wr).drew.mono HB.out.size))
        clear hc hc' jx jy
        by_cases hxy : x = y
        · have HQ := hidp (HN.out hxy)
          subst hxy
          go_wp2_with fail
          go_region
          go_wp2
          go_roundw
          case rel => exact ⟨j + 1, by omega, by go_num, HQ, HB2⟩
          case measure => simp [intOf]; omega
        · have HQ := hidp (HM.out hxy)
          have hb : (x == y) = false := by simp [hxy]
          go_wp2_with fail
          go_region
          go_wp2
          go_ret
          exact ⟨by rw [HQ.out]; rfl, HB2.out⟩
      · have l1 : ¬ (j : Int) < (n : Int) := by omega
        obtain rfl : j = n := by omega
        have HQ := hidp (show decide (xs = ys) = true by
          have := HP.out
          rw [List.take_of_length_le (by rw [HLX.out]; omega), List.take_of_length_le (by rw [HLY.out]; omega)] at this
          simpa using this)
        go_wp2
        go_ret
        exact ⟨by rw [HQ.out]; rfl, HB.out⟩
  · have HQ := hidp (show decide (xs = ys) = false by simp; intro e; subst e; omega)
    have hb : ((n : Int) == (m : Int)) = false := by simp; omega
    clear hlx hly
    go_enter Try.func60, Try.ntmps60
    go_wp2
    go_ret
    exact ⟨by rw [HQ.out]; rfl, Below.refl _ _⟩

set_option maxHeartbeats 2000000 in
theorem eq62_any (a b : Option Addr) (n m c d : Nat) (xs ys : List Int) (w : World) (hx : RowV w a n 1 (xs.map (Value.int .u8))) (hy : RowV w b m 1 (ys.map (Value.int .u8))) (hn : n ≤ 9223372036854775807) (hm : m ≤ 9223372036854775807) :
    Calls Try.prog 62 #[.slice a n c, .slice b m d] w fun e w' => e = .returned (.bool (decide (xs = ys))) ∧ Below w.heap.size w w' := by
  have hlx : xs.length = n := by simpa using hx.1
  have hly : ys.length = m := by simpa using hy.1
  have HX := hidp hx
  have HY := hidp hy
  clear hx hy
  by_cases hnm : n = m
  · subst hnm
    have HLX := hidp hlx
    have HLY := hidp hly
    clear hlx hly
    go_enter Try.func62, Try.ntmps62
    go_wp2
    go_loopw [13] (fun i wr => ∃ j : Nat, j ≤ n ∧ i = .int .i64 j ∧ Hid (xs.take j = ys.take j) ∧ Hid (Below w.heap.size w wr)) (fun i _ => n - (intOf i).toNat)
    case atStart => exact ⟨0, by omega, rfl, rfl, Below.refl _ _⟩
    case round =>
      obtain ⟨j, hj, rfl, HP, HB⟩ := hrel
      by_cases hlt : j < n
      · obtain ⟨g, o, rfl, hc⟩ := (HX.out.below HB.out).2 (by omega)
        obtain ⟨g', o', rfl, hc'⟩ := (HY.out.below HB.out).2 (by omega)
        have jx : j < xs.length := by rw [HLX.out]; exact hlt
        have jy : j < ys.length := by rw [HLY.out]; exact hlt
        have cx := hc j (.int .u8 xs[j]) (by simp [List.getElem?_eq_getElem jx])
        have cy := hc' j (.int .u8 ys[j]) (by simp [List.getElem?_eq_getElem jy])
        have HN := hidp (show xs[j] = ys[j] → xs.take (j + 1) = ys.take (j + 1) from fun h => by rw [List.take_add_one, List.take_add_one, HP.out, List.getElem?_eq_getElem jx, List.getElem?_eq_getElem jy, h])
        have HM := hidp (show xs[j] ≠ ys[j] → decide (xs = ys) = false from fun h => by simp; intro e; subst e; exact h rfl)
        generalize xs[j] = x at *
        generalize ys[j] = y at *
        have l1 : (j : Int) < (n : Int) := by omega
        have HB2 := hidp (HB.out.trans ((Below.refl wr.heap.size wr).drew.mono HB.out.size))
        clear hc hc' jx jy
        by_cases hxy : x = y
        · have HQ := hidp (HN.out hxy)
          subst hxy
          go_wp2_with fail
          go_region
          go_wp2
          go_roundw
          case rel => exact ⟨j + 1, by omega, by go_num, HQ, HB2⟩
          case measure => simp [intOf]; omega
        · have HQ := hidp (HM.out hxy)
          have hb : (x == y) = false := by simp [hxy]
          go_wp2_with fail
          go_region
          go_wp2
          go_ret
          exact ⟨by rw [HQ.out]; rfl, HB2.out⟩
      · have l1 : ¬ (j : Int) < (n : Int) := by omega
        obtain rfl : j = n := by omega
        have HQ := hidp (show decide (xs = ys) = true by
          have := HP.out
          rw [List.take_of_length_le (by rw [HLX.out]; omega), List.take_of_length_le (by rw [HLY.out]; omega)] at this
          simpa using this)
        go_wp2
        go_ret
        exact ⟨by rw [HQ.out]; rfl, HB.out⟩
  · have HQ := hidp (show decide (xs = ys) = false by simp; intro e; subst e; omega)
    have hb : ((n : Int) == (m : Int)) = false := by simp; omega
    clear hlx hly
    go_enter Try.func62, Try.ntmps62
    go_wp2
    go_ret
    exact ⟨by rw [HQ.out]; rfl, Below.refl _ _⟩
end Go.Proofs.Ytnenpfalhbbadaa
