/- The law QueueLines answers true, whatever the lines and the length of the far one. -/
import Derived.Test.YtfcfckcpmjccoaaLinesA
import Derived.Test.YtfcfckcpmjccoaaFlowsA
import Derived.Deep.RegionHeld
import Derived.BigQuiet
import Derived.Deep.DeepCutAuto
import Derived.Deep.Cut
namespace Go.Proofs.Ytfcfckcpmjccoaa
open Go.RowKit

/-- strings that lie in a slice -/
def StrsAt (w : World) (a : Option Addr) (len : Nat) (S : Nat → ByteArray) : Prop := 0 < len → ∃ g o, a = some ⟨g, o, none⟩ ∧ ∀ i, i < len → w.cell? ⟨g, o + i, none⟩ = some (.string (S i))

theorem add_lit0 (g i : Nat) : ((⟨g, 0, none⟩ : Addr).add i) = ⟨g, 0 + i, none⟩ := by unfold Addr.add; split <;> simp_all

set_option maxRecDepth 100000 in
set_option maxHeartbeats 4000000 in
theorem lines_any (a : Option Addr) (len cap : Nat) (S : Nat → ByteArray) (m : Nat) (hm : m ≤ 255) (w : World) (hS : StrsAt w a len S) :
    Calls Try.prog 3 #[.slice a len cap, .int .u8 m] w fun e w' => e = .returned (.bool true) ∧ Below w.heap.size w w' := by
  have HS := hidp hS
  clear hS
  by_cases h10 : 10 < len
  · go_enter Try.func3, Try.ntmps3
    go_wp2_with (first | (go_at_call 7; refine (awake_any _).mono ?_; rintro e w6 ⟨rfl, B6⟩))
    go_ret
    exact ⟨rfl, B6⟩
  go_enter Try.func3, Try.ntmps3
  go_wp2_with fail
  go_loop [5, 6] (fun s i => ∃ j : Nat, j ≤ len ∧ s = .string (linesTo S j) ∧ i = .int .i64 j ∧ Hid (∀ i, i < j → (S i).size ≤ 20 ∧ ∀ x ∈ nums (S i), x ≠ 10)) (fun _ i => len - (intOf i).toNat)
  case atStart => exact ⟨0, by omega, rfl, rfl, fun i hi => absurd hi (by omega)⟩
  case round =>
    obtain ⟨j, hj, rfl, rfl, HL⟩ := hrel
    by_cases hlt : j < len
    · obtain ⟨g, o, rfl, hc⟩ := HS.out (by omega)
      have cj := hc j hlt
      have l1 : (j : Int) < (len : Int) := by omega
      clear hc
      obtain ⟨s, hs⟩ : ∃ s, s = S j := ⟨_, rfl⟩
      rw [← hs] at cj
      have HSJ := hidp hs
      clear hs
      by_cases h20 : 20 < s.size
      · go_wp2_with (first | (go_at_call 7; refine (awake_any _).mono ?_; rintro e w6 ⟨rfl, B6⟩))
        go_ret
        exact ⟨rfl, B6⟩
      go_wp2_with fail
      go_loop [7] (fun k => ∃ t : Nat, t ≤ s.size ∧ k = .int .i64 t ∧ Hid (∀ x ∈ (nums s).take t, x ≠ 10)) (fun k => s.size - (intOf k).toNat)
      case atStart => exact ⟨0, by omega, rfl, by intro x hx; simp at hx⟩
      case round =>
        obtain ⟨t, ht, rfl, HT⟩ := hrel
        by_cases htl : t < s.size
        · have l2 : (t : Int) < (s.size : Int) := by omega
          have hnt : (nums s).take (t + 1) = (nums s).take t ++ [(s[t].toNat : Int)] := by
            rw [List.take_add_one, show (nums s)[t]? = some (s[t].toNat : Int) by unfold nums; rw [List.getElem?_map, Array.getElem?_toList]; show Option.map _ s.data[t]? = _; rw [Array.getElem?_eq_getElem htl]; rfl]
            rfl
          have HNT := hidp hnt
          clear hnt
          by_cases hx : (s[t].toNat : Int) = 10
          · have hb : ((s[t].toNat : Int) == 10) = true := by rw [hx]; rfl
            clear hx
            go_wp2_with (first | (go_at_call 7; refine (awake_any _).mono ?_; rintro e w6 ⟨rfl, B6⟩))
            go_ret
            exact ⟨rfl, B6⟩
          · have hb : ((s[t].toNat : Int) == 10) = false := by rw [beq_eq_false_iff_ne]; exact hx
            have HX := hidp hx
            clear hx
            go_wp2
            go_round
            case rel => exact ⟨t + 1, by omega, by go_num, fun x hx' => by
              rw [HNT.out] at hx'
              rcases List.mem_append.1 hx' with h | h
              · exact HT.out x h
              · rw [List.mem_singleton.1 h]; exact HX.out⟩
            case measure => simp [intOf]; omega
        · have l2 : ¬ (t : Int) < (s.size : Int) := by omega
          have hall : Hid (∀ x ∈ nums s, x ≠ 10) := fun x hx => HT.out x (by rw [List.take_of_length_le (by rw [nums_length]; omega)]; exact hx)
          have hsl : (linesTo S j).size ≤ 210 := by have := linesTo_le S j fun i hi => (HL.out i hi).1; omega
          have hs63 : ¬ 9223372036854775807 < (linesTo S j).size + s.size := by omega
          have hs64 : ¬ 9223372036854775807 < (linesTo S j).size + s.size + 1 := by omega
          go_wp2
          go_round
          case rel => exact ⟨j + 1, by omega, by rw [HSJ.out]; rfl, by go_num, fun i hi => by
            by_cases hij : i = j
            · subst hij; rw [← HSJ.out]; exact ⟨by omega, hall.out⟩
            · exact HL.out i (by omega)⟩
          case measure => simp [intOf]; omega
    · have l1 : ¬ (j : Int) < (len : Int) := by omega
      obtain rfl : j = len := by omega
      go_wp2_with fail
      go_loop [8, 9] (fun f i => ∃ t : Nat, t ≤ 21 + m ∧ f = .string (farTo t) ∧ i = .int .i64 t) (fun _ i => 21 + m - (intOf i).toNat)
      case atStart => exact ⟨0, by omega, rfl, rfl⟩
      case round =>
        obtain ⟨t, ht, rfl, rfl⟩ := hrel
        by_cases htl : t < 21 + m
        · have l2 : (t : Int) < 21 + (m : Int) := by omega
          have hsf : (farTo t).size = t := by rw [← nums_length, farTo_nums, List.length_replicate]
          have hs63 : ¬ 9223372036854775807 < (farTo t).size + 1 := by omega
          clear hsf
          go_wp2
          go_round
          case rel => exact ⟨t + 1, by omega, rfl, by go_num⟩
          case measure => simp [intOf]; omega
        · have l2 : ¬ (t : Int) < 21 + (m : Int) := by omega
          go_wp2_with fail
          refine (new_any 2000 w).mono ?_
          rintro e w1 ⟨q, rfl, Q1, hB1⟩
          rw [show capQ 2000 = 2000 from rfl] at Q1
          have H1 := hidp (And.intro Q1 hB1)
          have hcv := fun w s => run_bytes_of_string (P := Try.prog) w 9 27 5 s Try.underlying9 Try.underlying27 Try.underlying5
          clear Q1 hB1
          have hsl : (linesTo S j).size ≤ 210 := by have := linesTo_le S j fun i hi => (HL.out i hi).1; omega
          obtain rfl : t = 21 + m := by omega
          have hsf : (farTo (21 + m)).size = 21 + m := by rw [← nums_length, farTo_nums, List.length_replicate]
          have hs63 : ¬ 9223372036854775807 < (linesTo S j).size + (farTo (21 + m)).size := by omega
          have hnA : nums (linesTo S j ++ farTo (21 + m)) = leftL S j 0 (List.replicate (21 + m) 120) := by rw [nums_append, farTo_nums, leftL_zero]
          have HSZ := hidp (And.intro hsl hsf)
          have HNA := hidp hnA
          clear hsl hsf hnA
          go_wp2_with fail
          have hC := grownCap_ge w1 ((linesTo S j).size + (farTo (21 + m)).size) 0 5
          have hAs : (linesTo S j).size + (farTo (21 + m)).size = (linesTo S j ++ farTo (21 + m)).size := by rw [ByteArray.size_append]
          have hAb : (linesTo S j ++ farTo (21 + m)).size ≤ 500 := by rw [← hAs]; have := HSZ.out; omega
          have hAp : 0 < (linesTo S j ++ farTo (21 + m)).size := by rw [← hAs]; have := HSZ.out; omega
          generalize grownCap w1 ((linesTo S j).size + (farTo (21 + m)).size) 0 5 = C at hC ⊢
          rw [hAs] at hC ⊢
          generalize linesTo S j ++ farTo (21 + m) = A at HNA hC hAb hAp ⊢
          have hBa : Below w1.heap.size w1 (w1.alloc (.cells (bytesRow A C) 5 ((bytesRow A C).size, (bytesRow A C).size + 1))).drew := ((Below.refl _ _).alloc (Nat.le_refl _) _).drew
          have hsrc : Src (w1.alloc (.cells (bytesRow A C) 5 ((bytesRow A C).size, (bytesRow A C).size + 1))).drew (some ⟨w1.heap.size, 0, none⟩) C (nums A) := by
            refine ⟨by rw [nums_length]; exact hC, fun _ => ⟨_, rfl, fun i u hu => ?_⟩⟩
            have hi : i < A.data.size := by
              have := (List.getElem?_eq_some_iff.1 hu).1
              rw [List.length_map, nums_length] at this
              exact this
            rw [add_lit0, Nat.zero_add]
            show (w1.alloc _).cell? _ = _
            rw [World.cell?_alloc_mark, bytesRow_at A C i hi, ← hu]
            unfold nums
            rw [List.getElem?_map, List.getElem?_map, Array.getElem?_toList, Array.getElem?_eq_getElem hi]
            rfl
          generalize (w1.alloc (.cells (bytesRow A C) 5 ((bytesRow A C).size, (bytesRow A C).size + 1))).drew = w2 at hBa hsrc ⊢
          have hpn : putN [] 2000 (nums A) = A.size := by unfold putN; rw [nums_length]; simp; omega
          refine (put_sep w.heap.size q _ [] 2000 (some ⟨w1.heap.size, 0, none⟩) C A.size (nums A) w2 (H1.out.1.below hBa (Nat.le_refl _)) hsrc (nums_rng A) (nums_length A)).mono ?_
          rw [hpn, List.take_of_length_le (by rw [nums_length]; omega), List.nil_append, HNA.out]
          rintro e w3 ⟨rfl, ⟨v3, Q3, _⟩, F3⟩
          have hB2 := H1.out.2.trans (hBa.mono H1.out.2.size)
          have H3 := hidp (And.intro (show ∃ v, QIs w3 48 w.heap.size q v (leftL S j 0 (List.replicate (21 + m) 120)) 2000 false from ⟨v3, Q3⟩) (hB2.trans (F3.below hB2.size H1.out.1.hb)))
          clear Q3 F3 hB2 hBa hsrc hpn H1 HNA hC hAb hAp hs63 HSZ hcv
          go_wp2
          go_loopw [11] (fun i wr => ∃ k : Nat, k ≤ j ∧ i = .int .i64 k ∧ Hid ((∃ v, QIs wr 48 w.heap.size q v (leftL S j k (List.replicate (21 + m) 120)) 2000 false) ∧ Below w.heap.size w wr)) (fun i _ => j - (intOf i).toNat)
          case atStart => exact ⟨0, by omega, rfl, H3⟩
          case round =>
            obtain ⟨k, hk, rfl, HK⟩ := hrel
            clear H3
            obtain ⟨⟨v, Qk⟩, hBk⟩ := HK.out
            by_cases hkl : k < j
            · obtain ⟨g, o, rfl, hc⟩ := HS.out (by omega)
              have ck := below_cell hBk (Nat.le_refl _) _ _ (hc k hkl)
              have l3 : (k : Int) < (j : Int) := by omega
              obtain ⟨hk20, hk10⟩ := HL.out k hkl
              obtain ⟨e1, e2, e3⟩ := left_line S j k (List.replicate (21 + m) 120) hkl hk10
              have HE := hidp (And.intro e2 (And.intro e3 (hc k hkl)))
              have hqb := Qk.hb
              clear hc e2 e3 hk10
              go_wp2_with fail
              refine (line_yes w.heap.size q v _ 2000 false 20 (S k).size wr Qk e1 hk20).mono ?_
              rw [HE.out.1, HE.out.2.1]
              rintro e w4 ⟨v4, rfl, O4, Q4, F4⟩
              have hB4 := hBk.trans (F4.below hBk.size hqb)
              have E4 : ∀ W : World, Below w4.heap.size w4 W → (convert 27 9 v4).run Try.prog W = .ok (.string (S k)) W := fun W hW => by
                have O5 := O4.below hW (Nat.le_refl _)
                rw [← nums_length] at O5
                have := str_of O5
                rwa [str_nums] at this
              obtain ⟨y4, z4, rfl⟩ := O4.slice
              have c4 : ∀ W : World, Below w4.heap.size w4 W → W.cell? ⟨g, o + k, none⟩ = some (.string (S k)) := fun W hW => below_cell (hB4.trans (hW.mono hB4.size)) (Nat.le_refl _) _ _ HE.out.2.2
              have H4 := hidp (And.intro Q4 hB4)
              have K4 := hidp (fun W hW => And.intro (E4 W hW) (And.intro (c4 W hW) hW))
              clear O4 Q4 F4 hB4 HE Qk hBk e1 HK ck E4 c4
              generalize S k = s at K4 hk20 ⊢
              go_wp2_with fail
              go_region_held (fun W => (convert 27 9 (.slice y4 s.size z4)).run Try.prog W = .ok (.string s) W ∧ W.cell? ⟨g, o + k, none⟩ = some (.string s) ∧ Below w4.heap.size w4 W)
                (first | exact K4.out _ (by assumption) | exact K4.out _ (Below.refl _ _) | exact K4.out _ (Below.refl _ _).drew) (fail)
              go_wp2
              go_roundw
              case rel => exact ⟨k + 1, by omega, by go_num, by first | exact H4 | (obtain ⟨⟨vq, hvq⟩, hb4⟩ := H4.out; exact ⟨⟨vq, hvq.drew⟩, hb4.drew⟩)⟩
              case measure => simp [intOf]; omega
            · obtain rfl : k = j := by omega
              have l3 : ¬ (k : Int) < (k : Int) := by omega
              rw [leftL_end] at Qk
              have hqb := Qk.hb
              have hF : passX (List.replicate (21 + m) 120) = [] := by unfold passX; rw [nlAt_rep]
              have hF2 : passS (List.replicate (21 + m) 120) true = true := by unfold passS; rw [nlAt_rep]; rfl
              have hcv := conv27 #[.int .u8 121, .int .u8 121, .int .u8 10, .int .u8 110, .int .u8 101, .int .u8 120, .int .u8 116, .int .u8 10] 8
              have hst : (strOfNums [110, 101, 120, 116]).toList = [110, 101, 120, 116] := by decide +kernel
              go_wp2_with fail
              refine (line_long w.heap.size q v _ 2000 false 20 wr Qk (.inr ⟨nlAt_rep _, by rw [List.length_replicate]; show 20 < _; omega⟩)).mono ?_
              rw [hF, hF2]
              rintro e w4 ⟨rfl, ⟨v4, Q4⟩, F4⟩
              have H4 := hidp (And.intro Q4 (hBk.trans (F4.below hBk.size hqb)))
              clear Q4 F4 hF hF2 HK hBk Qk
              go_wp2_with fail
              have hal := heap_alloc_new w4 (.cells #[.int .u8 121, .int .u8 121, .int .u8 10, .int .u8 110, .int .u8 101, .int .u8 120, .int .u8 116, .int .u8 10] 5 (8, 9))
              have hBa : Below w4.heap.size w4 (w4.alloc (.cells #[.int .u8 121, .int .u8 121, .int .u8 10, .int .u8 110, .int .u8 101, .int .u8 120, .int .u8 116, .int .u8 10] 5 (8, 9))) := (Below.refl _ _).alloc (Nat.le_refl _) _
              generalize (w4.alloc (.cells #[.int .u8 121, .int .u8 121, .int .u8 10, .int .u8 110, .int .u8 101, .int .u8 120, .int .u8 116, .int .u8 10] 5 (8, 9))) = w5 at *
              have Q5 := hidp (H4.out.1.below hBa (Nat.le_refl _))
              have B5 := hidp (H4.out.2.trans (hBa.mono H4.out.2.size))
              refine (put_pos w.heap.size q v4 [] 2000 true (some ⟨w4.heap.size, 0, none⟩) 8 [121, 121, 10, 110, 101, 120, 116, 10] w5 Q5.out ⟨by decide, fun _ => ⟨_, rfl, ?_⟩⟩ (by decide) 8 rfl (by decide)).mono ?_
              · intro i u hu
                rw [add_lit0]
                exact cellOf hal _ (by simpa using hu)
              rintro e w6 ⟨rfl, ⟨v6, Q6⟩, F6⟩
              have H6 := hidp (show QIs w6 48 w.heap.size q v6 [110, 101, 120, 116, 10] 2000 false from Q6)
              have B6 := hidp (B5.out.trans (F6.below B5.out.size hqb))
              clear Q6 F6 hal hBa Q5 H4 B5 hcv
              go_wp2_with fail
              refine (line_yes w.heap.size q v6 [110, 101, 120, 116, 10] 2000 false 20 4 w6 H6.out rfl (by decide)).mono ?_
              rintro e w7 ⟨v7, rfl, O7, ⟨u7', Q7⟩, F7⟩
              have hs7 := str_of (xs := [110, 101, 120, 116]) O7
              have H7 := hidp (show QIs w7 48 w.heap.size q u7' [] 2000 false from Q7)
              have B7 := hidp (B6.out.trans (F7.below B6.out.size hqb))
              clear Q7 F7 H6 O7 B6
              go_wp2_with (first
                | (go_at_call 11; refine (len_any w.heap.size q _ [] 2000 false _ H7.out).mono ?_; rintro e w8 ⟨rfl, rfl⟩)
                | (go_at_call 7; refine (awake_any _).mono ?_; rintro e w9 ⟨rfl, B9⟩))
              go_ret
              exact ⟨rfl, B7.out.trans (B9.mono B7.out.size)⟩
end Go.Proofs.Ytfcfckcpmjccoaa
