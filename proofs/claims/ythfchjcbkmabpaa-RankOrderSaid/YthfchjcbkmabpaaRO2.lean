/- In which order candidates are taken: the document's Order. -/
import Derived.Test.YthfchjcbkmabpaaRO
namespace Go.Proofs.Ythfchjcbkmabpaa
open Go.RowKit

set_option maxHeartbeats 1000000 in
theorem rorder_any (L : List Cnd) (a : Option Addr) (n c : Nat) (w : World) (hL : CandsV w a n L) (hn : n ≤ 1000) (hpl : ∀ c ∈ L, c.pl ≤ 1000000) :
    Calls Try.prog 18 #[.slice a n c] w fun e w' => (∃ v, e = .returned v ∧ OwnI w' w.heap.size v (outP (KL L) (NL L) (List.range n) n)) ∧ Below w.heap.size w w' := by
  have HL := hidp hL
  have HPL := hidp hpl
  clear hL hpl
  go_enter Try.func18, Try.ntmps18
  go_wp2_with (first
    | (go_at_call 22; refine (places_any n w hn).mono ?_; rintro e w1 ⟨⟨v, rfl, hO⟩, B1⟩
       have H1 := hidp (And.intro hO B1)
       clear hO B1))
  obtain ⟨a0, c0, rfl⟩ : ∃ a0 c0, v = .slice a0 n c0 := by
    obtain ⟨a', c', e⟩ := H1.out.1.slice
    rw [List.length_range] at e
    exact ⟨a', c', e⟩
  have HO := hidp H1.out.1
  have HB := hidp H1.out.2
  clear H1
  go_loopw [3, 4, 5] (fun x y z wr => ∃ (k : Nat) (a : Option Addr) (m : Nat) (c : Nat) (a2 : Option Addr) (c2 : Nat) (b2 : Nat), k ≤ n ∧ m = n - k ∧ z = .int .i64 k ∧ y = .slice a m c ∧ x = .slice a2 k c2 ∧ OrdI w (KL L) (NL L) n k (.slice a2 k c2) (.slice a m c) b2 wr) (fun _ _ z _ => n - (intOf z).toNat)
  case atStart => exact ⟨0, _, _, _, _, _, _, by omega, rfl, rfl, rfl, rfl, ⟨OwnI.nil _ _, HO.out, fun g hg => (by cases hg), Nat.le_refl _, HB.out⟩⟩
  case round =>
    clear HO HB
    obtain ⟨k, a2, m2, c2, a3, c3, b2, hk, hm, rfl, rfl, rfl, hI⟩ := hrel
    obtain ⟨w2, rfl⟩ : ∃ w2, w2 = wr := ⟨_, rfl⟩
    have HI := hidp hI
    have hok := RestOk.of (KL L) (NL L) n k hk
    have hR := hI.rest
    clear hI
    by_cases hkj : k < n
    · obtain ⟨ys, hys⟩ : ∃ ys, ys = restP (KL L) (NL L) (List.range n) k := ⟨_, rfl⟩
      rw [← hys] at hok hR
      obtain rfl : m2 = ys.length := by rw [hok.len, hm]
      have hne : ys ≠ [] := by intro h0; rw [h0] at hm; simp at hm; omega
      have HPK := hidp (pick_spec (KL L) (NL L) hok.sorted hne).1
      obtain ⟨p, hp⟩ : ∃ p, p = pickP (KL L) (NL L) ys := ⟨_, rfl⟩
      have HYS := hidp hys
      have HP := hidp hp
      have HOK := hidp hok
      have l1 : (k : Int) < (n : Int) := by omega
      have l0 : 0 < ys.length := by omega
      clear hp hok hm hne hys
      have hrow : ∃ g o, a2 = some ⟨g, o, none⟩ ∧ ∀ i (hi : i < ys.length), w2.cell? ⟨g, o + i, none⟩ = some (.int .i64 (ys[i] : Int)) := by
        obtain ⟨a4, c4, e4, h4⟩ := hR.row.ints
        cases e4
        exact h4 (by omega)
      have HR := hidp hR
      obtain ⟨g, o, rfl, hci⟩ := hrow
      clear hci hR
      go_wp2_with (first
        | (go_at_call 21; refine (among_any L ys a n c _ _ (HL.out.below HI.out.below) HR.out.row HOK.out.below (by rw [HOK.out.len]; omega) HPL.out).mono ?_
           rw [HPK.out, ← HP.out]
           rintro e w3 ⟨rfl, B3⟩
           have H3 := hidp B3
           clear B3)
        | (at_builtin
           refine wpList_appI2 w _ rfl (.tmp 21) (.tmp 23) rfl w.heap.size a3 k c3 _ rfl (HI.out.out.below H3.out) p rfl (by rw [outP_len]; omega) (HI.out.below.trans (H3.out.mono HI.out.below.size)) (Nat.le_trans HI.out.below.size H3.out.size) ?_
           intro v' w4 h1 h2 h3
           have h1' : OwnI w4 w.heap.size v' (outP (KL L) (NL L) (List.range n) k ++ [pickP (KL L) (NL L) (restP (KL L) (NL L) (List.range n) k)]) := by rw [← HYS.out, ← HP.out]; exact h1
           have hJ := HI.out.push H3.out h1' h2 h3
           have H4 := hidp hJ
           clear h1 h2 h3 h1' hJ))
      have hrow : ∀ i (hi : i < ys.length), w4.cell? ⟨g, o + i, none⟩ = some (.int .i64 (ys[i] : Int)) := by
        have hR := H4.out.rest
        rw [← HYS.out] at hR
        obtain ⟨a4, c4, e4, h4⟩ := hR.row.ints
        cases e4
        obtain ⟨g', o', e', h5⟩ := h4 (by omega)
        cases e'
        exact h5
      have HCI := hidp hrow
      clear hrow HI H3
      have hkn : ys.length ≤ 1000 := by rw [HOK.out.len]; omega
      go_loopw [7, 8] (fun x i wr => ∃ (q : Nat) (a : Option Addr) (m c : Nat), q ≤ ys.length ∧ i = .int .i64 q ∧ x = .slice a m c ∧ OwnI wr w4.heap.size (.slice a m c) ((ys.take q).filter fun i => decide (i ≠ p)) ∧ Below w4.heap.size w4 wr) (fun _ i _ => ys.length - (intOf i).toNat)
      case atStart => exact ⟨0, _, _, _, by omega, rfl, rfl, OwnI.nil _ _, Below.refl _ _⟩
      case round =>
        obtain ⟨q, a5, m5, c5, hq, rfl, rfl, hO5, hB5⟩ := hrel
        obtain ⟨w5, rfl⟩ : ∃ w5, w5 = wr := ⟨_, rfl⟩
        have HO5 := hidp hO5
        have HB5 := hidp hB5
        clear hO5 hB5
        by_cases hlt : q < ys.length
        · have l2 : (q : Int) < (ys.length : Int) := by omega
          have hft := filter_take hlt fun i => decide (i ≠ p)
          have ci := below_cell HB5.out (Nat.le_refl _) _ _ (HCI.out q hlt)
          generalize ys[q] = iy at *
          have HFT := hidp hft
          clear hft
          by_cases hip : iy = p
          · have l3 : ((iy : Int) != (p : Int)) = false := by simp [hip]
            have HF := hidp (show (ys.take (q + 1)).filter (fun i => decide (i ≠ p)) = (ys.take q).filter fun i => decide (i ≠ p) by rw [HFT.out]; simp [hip])
            clear hip
            go_wp2
            go_roundw
            case rel => exact ⟨q + 1, a5, m5, c5, by omega, by go_num, rfl, by rw [HF.out]; exact HO5.out, HB5.out⟩
            case measure => simp [intOf]; omega
          · have l3 : ((iy : Int) != (p : Int)) = true := by simp; omega
            have HF := hidp (show (ys.take (q + 1)).filter (fun i => decide (i ≠ p)) = ((ys.take q).filter fun i => decide (i ≠ p)) ++ [iy] by rw [HFT.out]; simp [hip])
            clear hip
            have hm5 : ((ys.take q).filter fun i => decide (i ≠ p)).length = m5 := by
              obtain ⟨a', c', e⟩ := HO5.out.slice
              cases e
              rfl
            have hml : m5 ≤ 1000 := by
              rw [← hm5]
              have h1 := List.length_filter_le (fun i => decide (i ≠ p)) (ys.take q)
              have h2 := List.length_take_le q ys
              omega
            have HM := hidp hm5
            clear hm5
            go_wp2_with (first
              | (at_builtin
                 refine wpList_appI w4 w5 rfl (.tmp 37) (.tmp 42) rfl w4.heap.size a5 m5 c5 _ rfl HO5.out iy rfl (by rw [HM.out]; exact hml) HB5.out HB5.out.size ?_
                 intro v' w' h1 h2
                 have H1 := hidp (And.intro h1 h2)
                 clear h1 h2))
            go_roundw
            case rel =>
              obtain ⟨a', c', e⟩ := H1.out.1.slice
              have h1 := H1.out.1
              rw [e] at h1
              rw [← HF.out] at h1 e
              exact ⟨q + 1, a', _, c', by omega, by go_num, e, h1, H1.out.2⟩
            case measure => simp [intOf]; omega
        · have l2 : ¬ (q : Int) < (ys.length : Int) := by omega
          obtain rfl : q = ys.length := by omega
          rw [List.take_length] at HO5
          have hz : OwnI w5 w4.heap.size (.slice a5 m5 c5) ((restP (KL L) (NL L) (List.range n) k).filter fun i => decide (i ≠ pickP (KL L) (NL L) (restP (KL L) (NL L) (List.range n) k))) := by
            rw [← HYS.out, ← HP.out]; exact HO5.out
          have hm5 : m5 = n - (k + 1) := by
            have h1 := (RestOk.of (KL L) (NL L) n (k + 1) (by omega)).len
            have h2 : restP (KL L) (NL L) (List.range n) (k + 1) = (restP (KL L) (NL L) (List.range n) k).filter fun i => decide (i ≠ pickP (KL L) (NL L) (restP (KL L) (NL L) (List.range n) k)) := rfl
            rw [h2] at h1
            rw [← h1]
            obtain ⟨a', c', e⟩ := hz.slice
            cases e
            rfl
          have HN := hidp (H4.out.next hz HB5.out)
          have HM5 := hidp hm5
          have HL5 := hidp HOK.out.len
          clear hz hm5
          obtain ⟨a6, c6, e6⟩ : ∃ a6 c6, v' = .slice a6 (k + 1) c6 := by
            obtain ⟨a', c', e⟩ := H4.out.out.slice
            rw [outP_len] at e
            exact ⟨a', c', e⟩
          subst e6
          go_wp2
          go_roundw
          case rel => exact ⟨k + 1, a5, m5, c5, a6, c6, _, by omega, HM5.out, by go_num, rfl, rfl, HN.out⟩
          case measure => simp [intOf]; omega
    · have l1 : ¬ (k : Int) < (n : Int) := by omega
      obtain rfl : k = n := by omega
      clear hR hok
      go_wp2
      go_ret
      exact ⟨⟨_, rfl, HI.out.out⟩, HI.out.below⟩
end Go.Proofs.Ythfchjcbkmabpaa
