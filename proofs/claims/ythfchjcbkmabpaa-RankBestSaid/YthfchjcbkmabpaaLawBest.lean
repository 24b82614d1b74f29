/- RankBest answers true: the program takes the one that the document takes; of candidates that are not few only the example is asked. -/
import Derived.Test.YthfchjcbkmabpaaRW
namespace Go.Proofs.Ythfchjcbkmabpaa
open Go.RowKit

theorem few_pl {L : List Cnd} (h : ∀ c ∈ L, c.pl ≤ 12) : ∀ c ∈ L, c.pl ≤ 1000000 := fun c hc => Nat.le_trans (h c hc) (by decide)
set_option maxHeartbeats 1000000 in
theorem lawBest_any (L : List Cnd) (a : Option Addr) (n c : Nat) (w : World) (hL : CandsV w a n L) :
    Calls Try.prog 3 #[.slice a n c] w fun e w' => e = .returned (.bool true) ∧ Below w.heap.size w w' := by
  have HL := hidp hL
  clear hL
  go_enter Try.func3, Try.ntmps3
  go_upto_region 1 with (fail)
  go_wp2_with fail
  refine (few_any L a n c 30 w HL.out (by decide)).mono ?_
  rintro e w1 ⟨⟨b, rfl, hb⟩, B1⟩
  have HB1 := hidp B1
  clear B1
  cases b with
  | false =>
    clear hb
    go_wp2_with (first
      | (go_at_call 9; refine (awake_any _).mono ?_; rintro e w2 ⟨rfl, B2⟩
         have H2 := hidp (HB1.out.trans (B2.mono HB1.out.size))
         clear B2))
    go_ret
    exact ⟨rfl, H2.out⟩
  | true =>
    obtain ⟨hn, hp⟩ := hb rfl
    have HP := hidp (few_pl hp)
    clear hb hp
    go_wp2_with (first
      | (go_at_call 10; refine (pbest_any L a n c _ (HL.out.below HB1.out) (by omega) HP.out).mono ?_; rintro e w2 ⟨⟨r, rfl, hr⟩, B2⟩
         have H2 := hidp (HB1.out.trans (B2.mono HB1.out.size))
         have HR := hidp (among_best _ _ (List.pairwise_lt_range) hr)
         clear B2 hr)
      | (go_at_call 11; refine (rbest_any L a n c _ (HL.out.below H2.out) (by omega) HP.out).mono ?_; rw [HR.out]; rintro e w3 ⟨rfl, B3⟩
         have H3 := hidp (H2.out.trans (B3.mono H2.out.size))
         clear B3)
      | (go_at_call 9; refine (awake_any _).mono ?_; rintro e w4 ⟨rfl, B4⟩
         have H4 := hidp (H3.out.trans (B4.mono H3.out.size))
         clear B4))
    go_ret
    exact ⟨rfl, H4.out⟩
end Go.Proofs.Ythfchjcbkmabpaa
