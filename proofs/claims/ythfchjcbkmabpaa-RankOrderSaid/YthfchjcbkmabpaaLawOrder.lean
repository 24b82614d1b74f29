/- RankOrder answers true: the program takes candidates in the document's order; of candidates that are not few only the example is asked. -/
import Derived.Test.YthfchjcbkmabpaaRO2
import Derived.Test.YthfchjcbkmabpaaRW
namespace Go.Proofs.Ythfchjcbkmabpaa
open Go.RowKit

theorem few_pl2 {L : List Cnd} (h : ∀ c ∈ L, c.pl ≤ 12) : ∀ c ∈ L, c.pl ≤ 1000000 := fun c hc => Nat.le_trans (h c hc) (by decide)
set_option maxHeartbeats 1000000 in
theorem lawOrder_any (L : List Cnd) (a : Option Addr) (n c : Nat) (w : World) (hL : CandsV w a n L) :
    Calls Try.prog 7 #[.slice a n c] w fun e w' => e = .returned (.bool true) ∧ Below w.heap.size w w' := by
  have HL := hidp hL
  clear hL
  go_enter Try.func7, Try.ntmps7
  go_upto_region 1 with (fail)
  go_wp2_with fail
  refine (few_any L a n c 15 w HL.out (by decide)).mono ?_
  rintro e w1 ⟨⟨b, rfl, hb⟩, B1⟩
  have HB1 := hidp B1
  clear B1
  cases b with
  | false =>
    clear hb
    go_wp2_with (first
      | (go_at_call 9; refine (awake_any _).mono ?_; rintro e w2 ⟨rfl, B2⟩
         have H2 := hidp (HB1.out.trans (B2.mono HB1.out.size))
         clear B2))
    go_ret
    exact ⟨rfl, H2.out⟩
  | true =>
    obtain ⟨hn, hp⟩ := hb rfl
    have HP := hidp (few_pl2 hp)
    clear hb hp
    have hln := outP_len (KL L) (NL L) (List.range n) n
    have hpo : ∀ W, Below w.heap.size w W → Calls Try.prog 17 #[.slice a n c] W fun e w' => (∃ v, e = .returned v ∧ OwnI w' W.heap.size v (outP (KL L) (NL L) (List.range n) n)) ∧ Below W.heap.size W w' := fun W hW => porder_any L a n c W (HL.out.below hW) (by omega) HP.out
    have hro : ∀ W, Below w.heap.size w W → Calls Try.prog 18 #[.slice a n c] W fun e w' => (∃ v, e = .returned v ∧ OwnI w' W.heap.size v (outP (KL L) (NL L) (List.range n) n)) ∧ Below W.heap.size W w' := fun W hW => rorder_any L a n c W (HL.out.below hW) (by omega) HP.out
    generalize outP (KL L) (NL L) (List.range n) n = os at *
    have HPO := hidp hpo
    have HRO := hidp hro
    have hlb : os.length ≤ 15 := by omega
    clear hpo hro hln
    go_wp2_with (first
      | (go_at_call 17; refine (HPO.out _ HB1.out).mono ?_; rintro e w2 ⟨⟨v, rfl, hO⟩, B2⟩
         have H2 := hidp (And.intro hO (HB1.out.trans (B2.mono HB1.out.size)))
         clear hO B2)
      | (go_at_call 18; refine (HRO.out _ H2.out.2).mono ?_; rintro e w3 ⟨⟨v3, rfl, hO⟩, B3⟩
         have hO2 := H2.out.1.below B3
         have H3 := hidp (And.intro hO2 (And.intro hO (H2.out.2.trans (B3.mono H2.out.2.size))))
         obtain ⟨a2, c2, rfl, h2⟩ := hO2.row.ints
         obtain ⟨a3, c3, rfl, h3⟩ := hO.row.ints
         have HR := hidp (And.intro h2 h3)
         clear hO hO2 B3 h2 h3))
    go_loopw [5] (fun i wr => ∃ k : Nat, k ≤ os.length ∧ i = .int .i64 k ∧ Below w3.heap.size w3 wr) (fun i _ => os.length - (intOf i).toNat)
    case atStart => exact ⟨0, by omega, rfl, Below.refl _ _⟩
    case round =>
      obtain ⟨k, hk, rfl, hB⟩ := hrel
      obtain ⟨w4, rfl⟩ : ∃ w4, w4 = wr := ⟨_, rfl⟩
      have HB := hidp hB
      clear hB
      by_cases hlt : k < os.length
      · have l1 : (k : Int) < (os.length : Int) := by omega
        obtain ⟨g2, o2, rfl, e2⟩ := HR.out.1 (by omega)
        obtain ⟨g3, o3, rfl, e3⟩ := HR.out.2 (by omega)
        have d2 := below_cell HB.out (Nat.le_refl _) _ _ (e2 k hlt)
        have d3 := below_cell HB.out (Nat.le_refl _) _ _ (e3 k hlt)
        generalize os[k] = ox at *
        clear e2 e3
        go_upto_region 9 with (fail)
        go_quiet (fail)
        go_wp2
        go_roundw
        case rel => exact ⟨k + 1, by omega, by go_num, below_drewN HB.out _⟩
        case measure => simp [intOf]; omega
      · have l1 : ¬ (k : Int) < (os.length : Int) := by omega
        have HB4 := hidp (H3.out.2.2.trans (HB.out.mono H3.out.2.2.size))
        go_wp2_with (first
          | (go_at_call 9; refine (awake_any _).mono ?_; rintro e w5 ⟨rfl, B5⟩
             have H5 := hidp (HB4.out.trans (B5.mono HB4.out.size))
             clear B5))
        go_ret
        exact ⟨rfl, H5.out⟩
end Go.Proofs.Ythfchjcbkmabpaa
