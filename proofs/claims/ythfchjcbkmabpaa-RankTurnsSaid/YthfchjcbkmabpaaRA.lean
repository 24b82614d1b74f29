/- Two keys held against one another, and which of two places is taken. -/
import Derived.Test.YthfchjcbkmabpaaRK
import Derived.Test.YthfchjcbkmabpaaRP
namespace Go.Proofs.Ythfchjcbkmabpaa
open Go.RowKit

def keyl (x : Nat → Int) : List Value := [.int .i64 (x 0), .int .i64 (x 1), .int .i64 (x 2), .int .i64 (x 3), .int .i64 (x 4), .int .i64 (x 5), .int .i64 (x 6), .int .i64 (x 7)]
theorem keyl_get (x : Nat → Int) (i : Nat) (h : i < 8) : (keyl x).toArray[i]? = some (.int .i64 (x i)) := by
  match i, h with
  | 0, _ => rfl
  | 1, _ => rfl
  | 2, _ => rfl
  | 3, _ => rfl
  | 4, _ => rfl
  | 5, _ => rfl
  | 6, _ => rfl
  | 7, _ => rfl
def keyv (x : Nat → Int) : Value := .agg (keyl x).toArray
set_option maxHeartbeats 1000000 in
theorem against_any (x y : Nat → Int) (med : Bool) (w : World) :
    Calls Try.prog 24 #[keyv x, keyv y, .bool med] w fun e w' => e = .returned (.tuple #[.int .i64 (agF x y med 8 0).1, .int .i64 (agF x y med 8 0).2]) ∧ Below w.heap.size w w' := by
  unfold keyv
  obtain ⟨R, hR⟩ : ∃ R, R = agF x y med 8 0 := ⟨_, rfl⟩
  rw [← hR]
  have HR := hidp hR
  clear hR
  have hB0 := ((Below.refl w.heap.size w).alloc (Nat.le_refl _) (.cells (keyl x).toArray 49)).alloc (by simp) (.cells (keyl y).toArray 49)
  have k0 : ((w.alloc (.cells (keyl x).toArray 49)).alloc (.cells (keyl y).toArray 49)).heap[w.heap.size]? = some (.cells (keyl x).toArray 49 (0, 0)) := heap_alloc_at (heap_alloc_new w _) _
  have k1 : ((w.alloc (.cells (keyl x).toArray 49)).alloc (.cells (keyl y).toArray 49)).heap[w.heap.size + 1]? = some (.cells (keyl y).toArray 49 (0, 0)) := by
    have := heap_alloc_new (w.alloc (.cells (keyl x).toArray 49)) (.cells (keyl y).toArray 49)
    simpa using this
  have KX := hidp k0
  have KY := hidp k1
  have HB := hidp hB0
  clear k0 k1 hB0
  go_enter Try.func24, Try.ntmps24
  go_wp2
  generalize (w.alloc (.cells (keyl x).toArray 49)).alloc (.cells (keyl y).toArray 49) = W0 at *
  go_loopw [10] (fun i wr => ∃ j : Nat, j ≤ 8 ∧ i = .int .i64 j ∧ R = agF x y med (8 - j) j ∧ Below W0.heap.size W0 wr) (fun i _ => 8 - (intOf i).toNat)
  case atStart => exact ⟨0, by omega, rfl, HR.out, Below.refl _ _⟩
  case round =>
    obtain ⟨j, hj, rfl, hag, hB⟩ := hrel
    obtain ⟨w1, rfl⟩ : ∃ w1, w1 = wr := ⟨_, rfl⟩
    by_cases hlt : j < 8
    · have cx := cellOf (heap_below hB KX.out (ltOf KX.out)) j (keyl_get x j hlt)
      have cy := cellOf (heap_below hB KY.out (ltOf KY.out)) j (keyl_get y j hlt)
      rw [show 8 - j = (8 - (j + 1)) + 1 by omega, agF] at hag
      have HG := hidp hag
      have HBB := hidp hB
      clear hag hB
      have l1 : (j : Int) < 8 := by omega
      have e1 : IntKind.i64.wrap ((j : Int) + 1) = (j : Int) + 1 := IntWalk.i64_in _ (by omega)
      by_cases h3 : j = 3 ∧ med = false
      · have HG2 := hidp (show R = agF x y med (8 - (j + 1)) (j + 1) by have := HG.out; rw [if_pos h3] at this; exact this)
        obtain ⟨rfl, rfl⟩ := h3
        clear e1 HG
        go_wp2
        go_roundw
        case rel => exact ⟨4, by omega, by go_num, HG2.out, HBB.out⟩
        case measure => simp [intOf]
      · have HG2 := hidp (show R = if cmpI (x j) (y j) ≠ 0 then (cmpI (x j) (y j), (j : Int) + 1) else agF x y med (8 - (j + 1)) (j + 1) by have := HG.out; rw [if_neg h3] at this; exact this)
        clear HG
        by_cases hc : cmpI (x j) (y j) = 0
        · have HG3 := hidp (show R = agF x y med (8 - (j + 1)) (j + 1) by rw [HG2.out, if_neg (by simp [hc])])
          have HC := hidp hc
          clear hc HG2
          by_cases hj3 : j = 3
          · subst hj3
            obtain rfl : med = true := by cases med; exact absurd ⟨rfl, rfl⟩ h3; rfl
            clear h3 e1
            go_wp2
            go_quiet ((go_at_call 28; (refine (cmp_any _ _ _).mono ?_); rw [HC.out]; rintro e w' ⟨rfl, rfl⟩; exact ⟨rfl, _, rfl⟩))
            go_wp2
            go_roundw
            case rel => exact ⟨4, by omega, by go_num, HG3.out, below_drewN HBB.out _⟩
            case measure => simp [intOf]
          · have q4 : ((j : Int) + 1 == 4) = false := by simp; omega
            clear h3
            go_wp2
            go_quiet ((go_at_call 28; (refine (cmp_any _ _ _).mono ?_); rw [HC.out]; rintro e w' ⟨rfl, rfl⟩; exact ⟨rfl, _, rfl⟩))
            go_wp2
            go_roundw
            case rel => exact ⟨j + 1, by omega, by go_num, HG3.out, below_drewN HBB.out _⟩
            case measure => simp [intOf]; omega
        · have HG3 := HG2.out
          rw [if_pos (by simpa using hc)] at HG3
          obtain ⟨cv, hcv⟩ : ∃ cv, cmpI (x j) (y j) = cv := ⟨_, rfl⟩
          rw [hcv] at hc HG3
          have HCV := hidp hcv
          have hc' : (cv != 0) = true := by simpa using hc
          have HG4 := hidp HG3
          clear hc HG2 HG3 hcv
          by_cases hj3 : j = 3
          · subst hj3
            obtain rfl : med = true := by cases med; exact absurd ⟨rfl, rfl⟩ h3; rfl
            clear h3 e1
            go_wp2
            go_quiet ((go_at_call 28; (refine (cmp_any _ _ _).mono ?_); rw [HCV.out]; rintro e w' ⟨rfl, rfl⟩; exact ⟨rfl, _, rfl⟩))
            go_wp2
            go_ret2
            exact ⟨by rw [HG4.out]; rfl, HB.out.trans ((below_drewN HBB.out _).mono HB.out.size)⟩
          · have q4 : ((j : Int) + 1 == 4) = false := by simp; omega
            clear h3
            go_wp2
            go_quiet ((go_at_call 28; (refine (cmp_any _ _ _).mono ?_); rw [HCV.out]; rintro e w' ⟨rfl, rfl⟩; exact ⟨rfl, _, rfl⟩))
            go_wp2
            go_ret2
            exact ⟨by rw [HG4.out]; rfl, HB.out.trans ((below_drewN HBB.out _).mono HB.out.size)⟩
    · have l1 : ¬ (j : Int) < 8 := by omega
      obtain rfl : j = 8 := by omega
      have HG3 := hidp (show R = (0, 0) from hag)
      have HBB := hidp hB
      clear hag hB
      go_wp2
      go_ret2
      exact ⟨by rw [HG3.out]; rfl, HB.out.trans (HBB.out.mono HB.out.size)⟩
end Go.Proofs.Ythfchjcbkmabpaa
