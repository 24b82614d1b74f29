/- The place of the best of some, the document's way: among and Best; and of any two. -/
import Derived.Test.YthfchjcbkmabpaaRG
namespace Go.Proofs.Ythfchjcbkmabpaa
open Go.RowKit

def stepsTo (m : Nat) : List Nat := (List.range m).map (· + 1)
theorem stepsTo_succ (m : Nat) : stepsTo (m + 1) = stepsTo m ++ [m + 1] := by simp [stepsTo, List.range_succ]
theorem leftsP_succ (K : Nat → Nat → Int) (Nr : Nat → Int) (xs : List Nat) (m : Nat) : leftsP K Nr xs (stepsTo (m + 1)) = leftP K Nr (leftsP K Nr xs (stepsTo m)) (m + 1) := by
  rw [stepsTo_succ, leftsP_append]; rfl
theorem amongP_eq (K : Nat → Nat → Int) (Nr : Nat → Int) (xs : List Nat) : amongP K Nr xs = match leftsP K Nr xs (stepsTo 8) with | [] => -1 | i :: _ => i := rfl
theorem ret_ii {a b : Int} (h : a = b) : Ending.returned (.int .i64 a) = .returned (.int .i64 b) := by rw [h]
set_option maxHeartbeats 1000000 in
theorem among_any (L : List Cnd) (xs : List Nat) (a : Option Addr) (n c : Nat) (v : Value) (w : World) (hL : CandsV w a n L) (hv : RowAt w 1 v xs.length (xs.map intv))
    (hx : ∀ i ∈ xs, i < n) (hxs : xs.length ≤ 1000) (hpl : ∀ c ∈ L, c.pl ≤ 1000000) :
    Calls Try.prog 21 #[.slice a n c, v] w fun e w' => e = .returned (.int .i64 (amongP (KL L) (NL L) xs)) ∧ Below w.heap.size w w' := by
  obtain ⟨R, hR⟩ : ∃ R, R = amongP (KL L) (NL L) xs := ⟨_, rfl⟩
  rw [← hR]
  rw [amongP_eq] at hR
  have HRR := hidp hR
  clear hR
  have hsub : ∀ m, (leftsP (KL L) (NL L) xs (stepsTo m)).Sublist xs := fun m => leftsP_sub _ _ _ _
  have HS := hidp hsub
  have HX := hidp hx
  have HL := hidp hL
  have HPL := hidp hpl
  have HV := hidp hv
  clear hx hL hv hpl hsub
  go_enter Try.func21, Try.ntmps21
  go_wp2
  go_loopw [1, 5] (fun x i wr => ∃ m : Nat, m ≤ 8 ∧ i = .int .i64 ((m : Int) + 1) ∧ RowAt wr 1 x (leftsP (KL L) (NL L) xs (stepsTo m)).length ((leftsP (KL L) (NL L) xs (stepsTo m)).map intv) ∧ Below w.heap.size w wr) (fun _ i _ => 9 - (intOf i).toNat)
  case atStart => exact ⟨0, by omega, rfl, HV.out, Below.refl _ _⟩
  case round =>
    obtain ⟨m, hm, rfl, hR, hB⟩ := hrel
    obtain ⟨w1, rfl⟩ : ∃ w1, w1 = wr := ⟨_, rfl⟩
    have HR := hidp hR
    have HB := hidp hB
    clear hR hB
    by_cases h8 : m < 8
    · have l1 : (m : Int) + 1 ≤ 8 := by omega
      have hxy : ∀ i ∈ leftsP (KL L) (NL L) xs (stepsTo m), i < n := fun i hi => HX.out i ((HS.out m).subset hi)
      have hly : (leftsP (KL L) (NL L) xs (stepsTo m)).length ≤ 1000 := Nat.le_trans (HS.out m).length_le hxs
      have HXY := hidp (And.intro hxy hly)
      have hsc := leftsP_succ (KL L) (NL L) xs m
      generalize leftsP (KL L) (NL L) xs (stepsTo m) = ys at *
      have HSC := hidp hsc
      clear hxy hly hsc
      go_wp2_with (first
        | (go_at_call 25; refine (left_any L ys (m + 1) a n c _ w1 (HL.out.below HB.out) HR.out HXY.out.1 HXY.out.2 HPL.out (by omega) (by omega)).mono ?_; rintro e w2 ⟨⟨v', rfl, hO⟩, B2⟩
           have H2 := hidp (And.intro hO B2)
           clear hO B2))
      go_roundw
      case rel => exact ⟨m + 1, by omega, by go_num, by rw [HSC.out]; exact H2.out.1.row, HB.out.trans (H2.out.2.mono HB.out.size)⟩
      case measure => simp [intOf]; omega
    · obtain rfl : m = 8 := by omega
      have l1 : ¬ ((8 : Nat) : Int) + 1 ≤ 8 := by omega
      generalize leftsP (KL L) (NL L) xs (stepsTo 8) = ys at *
      obtain ⟨a3, c3, rfl, hr⟩ := HR.out.ints
      cases ys with
      | nil =>
        clear hr
        go_wp2
        go_ret
        exact ⟨ret_ii HRR.out.symm, HB.out⟩
      | cons y r =>
        obtain ⟨g, o, rfl, hc⟩ := hr (by simp)
        have c0 := hc 0 (by simp)
        simp only [List.getElem_cons_zero, Nat.add_zero] at c0
        have hln : 0 < (y :: r).length := by simp
        have HRY := hidp (show R = (y : Int) from HRR.out)
        clear hc hr HR HRR
        generalize (y :: r).length = ln at *
        have l3 : ((ln : Int) == 0) = false := by simp; omega
        go_wp2
        go_ret
        exact ⟨ret_ii HRY.out.symm, HB.out⟩

theorem rbest_any (L : List Cnd) (a : Option Addr) (n c : Nat) (w : World) (hL : CandsV w a n L) (hn : n ≤ 1000) (hpl : ∀ c ∈ L, c.pl ≤ 1000000) :
    Calls Try.prog 11 #[.slice a n c] w fun e w' => e = .returned (.int .i64 (amongP (KL L) (NL L) (List.range L.length))) ∧ Below w.heap.size w w' := by
  have HL := hidp hL
  have hl := hL.len
  rw [hl]
  have HPL := hidp hpl
  clear hL hpl hl
  go_enter Try.func11, Try.ntmps11
  go_wp2_with (first
    | (go_at_call 22; refine (places_any n w hn).mono ?_; rintro e w1 ⟨⟨v, rfl, hO⟩, B1⟩
       have H1 := hidp (And.intro hO B1)
       clear hO B1)
    | (go_at_call 21; refine (among_any L (List.range n) a n c _ _ (HL.out.below H1.out.2) H1.out.1.row (fun i hi => List.mem_range.1 hi) (by simpa using hn) HPL.out).mono ?_; rintro e w2 ⟨rfl, B2⟩
       have H2 := hidp B2
       clear B2))
  go_ret
  exact ⟨rfl, H1.out.2.trans (H2.out.mono H1.out.2.size)⟩
end Go.Proofs.Ythfchjcbkmabpaa
