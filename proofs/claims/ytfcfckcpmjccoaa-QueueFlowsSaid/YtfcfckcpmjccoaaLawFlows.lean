/- The law QueueFlows answers true, whatever the bytes and the sizes. -/
import Derived.Test.YtfcfckcpmjccoaaFlowsA
import Derived.Deep.RegionHeld
import Derived.BigQuiet
import Derived.Deep.DeepCutAuto
import Derived.Deep.Cut
namespace Go.Proofs.Ytfcfckcpmjccoaa
open Go.RowKit

/-- numbers that lie in a slice -/
def IntsAt (w : World) (a : Option Addr) (len : Nat) (V : Nat → Int) : Prop := 0 < len → ∃ g o, a = some ⟨g, o, none⟩ ∧ ∀ i, i < len → w.cell? ⟨g, o + i, none⟩ = some (.int .i64 (V i))

set_option maxRecDepth 100000 in
set_option maxHeartbeats 4000000 in
theorem flows_any (m : Nat) (hm : m ≤ 255) (a : Option Addr) (c : Nat) (bs : List Int) (sa : Option Addr) (sl sc : Nat) (V : Nat → Int) (w : World) (hS : Src w a c bs) (ha : a = none → c = 0) (hbs : ∀ x ∈ bs, 0 ≤ x ∧ x ≤ 255) (hV : IntsAt w sa sl V) :
    Calls Try.prog 4 #[.int .u8 m, .slice a bs.length c, .slice sa sl sc] w fun e w' => e = .returned (.bool true) ∧ Below w.heap.size w w' := by
  have HS := hidp hS
  have HB := hidp hbs
  have HV := hidp hV
  have hnc := hS.1
  clear hS hbs hV
  obtain ⟨nb, hnb⟩ : ∃ nb, nb = bs.length := ⟨_, rfl⟩
  rw [← hnb] at hnc ⊢
  have HNB : Hid (bs.length = nb) := hnb.symm
  clear hnb
  obtain ⟨i0, hi0, hz0, hz1, hz2⟩ := info_parts Try.info5
  by_cases hbig : 400 < nb ∨ 40 < sl
  · rcases (by omega : 400 < nb ∨ (¬ 400 < nb ∧ 40 < sl)) with h | ⟨h, h2⟩
    all_goals
      clear hbig
      go_enter Try.func4, Try.ntmps4
      go_wp2_with (first | (go_at_call 7; refine (awake_any _).mono ?_; rintro e w6 ⟨rfl, B6⟩))
      go_ret
      exact ⟨rfl, B6⟩
  have h400 : ¬ 400 < nb := by omega
  have h40 : ¬ 40 < sl := by omega
  clear hbig
  go_enter Try.func4, Try.ntmps4
  go_wp2_with fail
  refine (new_any m w).mono ?_
  rintro e w1 ⟨q, rfl, Q1, hB1⟩
  have hcq : capQ m = m := by unfold capQ; omega
  rw [hcq] at Q1
  have HQ1 := hidp (And.intro Q1 hB1)
  clear Q1 hB1 hcq
  go_wp2
  have F0 : FL w q m 0 ((bs.take 0).drop 0) (bs.take 0) (.slice (some ⟨w1.heap.size, 0, none⟩) 0 0) (w1.alloc (.cells #[] 5)) := by
    obtain ⟨Q1, hB1⟩ := HQ1.out
    refine ⟨⟨.slice none 0 0, ?_, by intro g hg; cases hg⟩, ?_, hB1.alloc hB1.size _⟩
    · simpa using Q1.below ((Below.refl _ _).alloc (Nat.le_refl _) _) (Nat.le_refl _)
    · exact ⟨by simp, .inr ⟨w1.heap.size, 0, #[], rfl, hB1.size, heap_alloc_new _ _, by omega, by unfold maxLen; omega, by simp, by simp⟩⟩
  have H0 := hidp F0
  clear F0
  go_loopw [8, 9, 10] (fun n o i wr => ∃ k L j : Nat, n = .int .i64 k ∧ i = .int .i64 j ∧ j ≤ sl ∧ k ≤ nb ∧ L ≤ k ∧ Hid (FL w q m L ((bs.take k).drop L) (bs.take L) o wr)) (fun _ _ i _ => sl - (intOf i).toNat)
  case atStart => exact ⟨0, 0, 0, rfl, rfl, by omega, by omega, by omega, H0⟩
  case round =>
    obtain ⟨k, L, j, rfl, rfl, hj, hk, hL, HF⟩ := hrel
    clear H0 HQ1
    by_cases hlt : j < sl
    · obtain ⟨v, hq, hv⟩ := HF.out.q
      have l1 : (j : Int) < (sl : Int) := by omega
      have l2 : (k : Int) ≤ (nb : Int) := by omega
      have l3 : (nb : Int) ≤ (c : Int) := by omega
      go_upto_region 8 with (fail)
      go_cut [8] (fun n wx => ∃ k' : Nat, n = .int .i64 k' ∧ k' ≤ nb ∧ L ≤ k' ∧ Hid (FL w q m L ((bs.take k').drop L) (bs.take L) u9 wx))
      case first =>
        by_cases hck : c = k
        · obtain rfl : nb = c := by omega
          subst hck
          go_wp2_with fail
          refine (put_sep w.heap.size q v _ m a 0 0 [] wr hq Src.none (by simp) rfl).mono ?_
          rintro e w2 ⟨rfl, ⟨v2, q2, f2⟩, F2⟩
          have H2 := hidp (HF.out.step hq hv q2 f2 F2)
          clear hq hv q2 f2 F2
          rw [show putN ((bs.take nb).drop L) m [] = 0 by simp [putN]] at *
          go_wp2
          go_meet
          exact ⟨nb, by go_num, by omega, by omega, by simpa using H2⟩
        · cases a with
          | none => exact absurd (ha rfl) (by omega)
          | some ad =>
            go_wp2_with fail
            refine (put_sep w.heap.size q v _ m (some (ad.add k)) (c - k) (nb - k) (bs.drop k) wr hq (Src.drop (HS.out.below HF.out.below) (by rw [HNB.out]; exact hk)) (fun x hx => HB.out x (List.mem_of_mem_drop hx)) (by rw [List.length_drop, HNB.out])).mono ?_
            obtain ⟨n, hn⟩ : ∃ n, n = putN ((bs.take k).drop L) m (bs.drop k) := ⟨_, rfl⟩
            rw [← hn]
            have hnk : k + n ≤ nb := by
              have : n ≤ (bs.drop k).length := by rw [hn]; unfold putN; omega
              rw [List.length_drop, HNB.out] at this; omega
            clear hn
            rintro e w2 ⟨rfl, ⟨v2, q2, f2⟩, F2⟩
            have H2 := hidp (HF.out.step hq hv q2 f2 F2)
            clear hq hv q2 f2 F2
            rw [list_put bs L k n hL (by rw [HNB.out]; exact hk)] at H2
            go_wp2
            go_meet
            exact ⟨k + n, by go_num, by omega, by omega, H2⟩
      case rest =>
        obtain ⟨k', rfl, hk', hL', HF2⟩ := hcut
        clear HF hq hv hk hL l2 l3 v
        obtain ⟨v, hq, hv⟩ := HF2.out.q
        obtain ⟨g, o, rfl, hc⟩ := HV.out (by omega)
        have hcj := hc j hlt
        obtain ⟨X, hX⟩ : ∃ X, X = ((bs.take k').drop L).length := ⟨_, rfl⟩
        have HX := hidp hX.symm
        have hXm : X ≤ m := by rw [hX]; exact hq.len
        have hXs : X + L = k' := by rw [hX, List.length_drop, List.length_take, HNB.out]; omega
        have lX : ¬ (m : Int) < (X : Int) := by omega
        have lk : ¬ (nb : Int) < (k' : Int) := by omega
        obtain ⟨T, hT⟩ : ∃ T, T = takeN ((bs.take k').drop L) (V j) := ⟨_, rfl⟩
        have hTX : T ≤ X := by rw [hT, hX]; unfold takeN; omega
        have hTk : L + T ≤ k' := by omega
        have HT := hidp hT.symm
        have hcW := below_cell HF2.out.below (Nat.le_refl _) _ _ hcj
        have HCW := hidp hcj
        obtain ⟨Y, hY⟩ : ∃ Y, Y = X - T := ⟨_, rfl⟩
        have HY : Hid ((((bs.take k').drop L).drop T).length = Y) := by show _ = _; rw [List.length_drop, HX.out, hY]
        have hs1 : (Y : Int) + ((L + T : Nat) : Int) = (k' : Int) := by omega
        have hs2 : (Y : Int) + ((L : Int) + (T : Int)) = (k' : Int) := by omega
        clear hX hT hc hcj hY hXs
        generalize V j = n at HT hcW HCW
        go_wp2_with fail
        refine (len_any w.heap.size q v _ m false _ hq).mono ?_
        rw [HX.out]
        rintro e w2 ⟨rfl, rfl⟩
        go_wp2_with fail
        refine (take_sep w.heap.size q v _ m false n _ hq).mono ?_
        rw [HT.out]
        rintro e w3 ⟨x1, rfl, O1, ⟨v3, q3, f3⟩, F3⟩
        have H3 := hidp (HF2.out.step hq hv q3 f3 F3)
        obtain ⟨y1, z1, rfl⟩ := O1.slice
        have HO := hidp O1
        have hlT : Hid ((((bs.take k').drop L).take T).length = T) := by show _ = _; rw [List.length_take, HX.out]; omega
        have hcat : Hid ((bs.take L).map (Value.int .u8) ++ (((bs.take k').drop L).take T).map (Value.int .u8) = (bs.take (L + T)).map (Value.int .u8)) := by
          show _ = _; rw [← List.map_append, list_take bs L k' T (by omega)]
        clear hq hv q3 f3 F3 O1 HF2 hcW
        go_wp2_with (first
          | (at_builtin
             refine wpList_append_src rfl (.tmp 48) (.tmp 54) 27 rfl w.heap.size 5 i0 (.int .u8 0) 1 1 Try.underlying27 hi0 hz0 hz1 hz2 rfl (by omega) u9 L ((bs.take L).map (Value.int .u8)) rfl H3.out.o y1 T z1 ((((bs.take k').drop L).take T).map (Value.int .u8)) rfl (by rw [List.length_map, hlT.out, Nat.mul_one]) (HO.out.src) (one_u8 _) (by simp only [maxLen]; omega) (by omega) H3.out.below.size ?_
             intro o4 w4 hown4 hg4 hat4
             rw [hcat.out] at hown4
             have H4 := hidp (H3.out.grow hown4 hg4 hat4)
             obtain ⟨a4, c4, rfl⟩ := (OwnMid.of_owns hown4).slice
             clear hown4 hg4 hat4)
          | (go_at_call 11
             obtain ⟨v4, hq4, _⟩ := H4.out.q
             refine (len_any w.heap.size q v4 _ m false _ hq4).mono ?_
             rw [HY.out]
             rintro e w5 ⟨rfl, rfl⟩))
        go_roundw
        case rel => exact ⟨k', L + T, j + 1, rfl, by go_num, by omega, by omega, by omega, by rw [← List.drop_drop]; exact H4⟩
        case measure => simp [intOf]; omega
    · obtain ⟨v, hq, hv⟩ := HF.out.q
      have l1 : ¬ (j : Int) < (sl : Int) := by omega
      have l2 : (L : Int) ≤ (k : Int) := by omega
      have l3 : (k : Int) ≤ (c : Int) := by omega
      have l4 : (L : Int) ≤ (c : Int) := by omega
      have hO := OwnMid.of_owns HF.out.o
      have hlL : (bs.take L).length = L := by rw [List.length_take, HNB.out]; omega
      have s1 : ∀ W : World, Below wr.heap.size wr W → (convert 27 9 u9).run Try.prog W = .ok (.string (strOfNums (bs.take L))) W := fun W hW => str_of (by rw [hlL]; exact hO.below hW (Nat.le_refl _))
      have s2 : ∀ W : World, Below wr.heap.size wr W → (convert 27 9 (.slice a L c)).run Try.prog W = .ok (.string (strOfNums (bs.take L))) W := fun W hW => str_any c L (by rw [HNB.out]; omega) (HS.out.below (HF.out.below.trans (hW.mono HF.out.below.size)))
      have hlX : ((bs.take k).drop L).length = k - L := by rw [List.length_drop, List.length_take, HNB.out]; omega
      obtain ⟨a4, c4, rfl⟩ := hO.slice
      by_cases hck : c = L
      · obtain rfl : nb = c := by omega
        subst hck
        obtain rfl : k = nb := by omega
        have s3 : ∀ W : World, Below wr.heap.size wr W → (convert 27 9 (.slice a 0 0)).run Try.prog W = .ok (.string (strOfNums ((bs.take k).drop k))) W := fun W hW => by
          have := str_any (w := W) 0 0 (Nat.zero_le _) (HS.out.below (HF.out.below.trans (hW.mono HF.out.below.size)))
          simpa using this
        rw [Nat.sub_self] at hlX
        have S := hidp (fun W hW => And.intro (s1 W hW) (And.intro (s2 W hW) (And.intro (s3 W hW) hW)))
        have HQ := hidp hq
        have HLX := hidp hlX
        clear hO s1 s2 s3 hq hv hlX
        go_wp2_with fail
        go_region_held (fun W => (convert 27 9 (.slice a4 k c4)).run Try.prog W = .ok (.string (strOfNums (bs.take k))) W ∧ (convert 27 9 (.slice a k k)).run Try.prog W = .ok (.string (strOfNums (bs.take k))) W ∧ (convert 27 9 (.slice a 0 0)).run Try.prog W = .ok (.string (strOfNums ((bs.take k).drop k))) W ∧ Below wr.heap.size wr W)
          (first | exact S.out _ (by assumption) | exact S.out _ (Below.refl _ _).drew)
          (first
            | (go_at_call 13
               refine (bytes_any w.heap.size q v _ m false _ HQ.out.drew).mono ?_
               rintro e w2 ⟨y1, rfl, O1, B1⟩
               have B2 : Below wr.heap.size wr w2 := (Below.refl _ _).drew.trans B1
               have E1 := str_of O1
               obtain ⟨a1, c1, rfl⟩ := O1.slice
               rw [HLX.out] at E1 ⊢
               clear O1 B1)
            | (go_at_call 7
               refine (awake_any _).mono ?_
               rintro e w3 ⟨rfl, B3⟩
               have B4 := B2.trans (B3.mono B2.size)))
        go_wp2
        go_ret
        exact ⟨rfl, HF.out.below.trans (B4.mono HF.out.below.size)⟩
      · cases a with
        | none => exact absurd (ha rfl) (by omega)
        | some ad =>
        have s3 : ∀ W : World, Below wr.heap.size wr W → (convert 27 9 (.slice (some (ad.add L)) (k - L) (c - L))).run Try.prog W = .ok (.string (strOfNums ((bs.take k).drop L))) W := fun W hW => by
          have := str_any (w := W) (c - L) (k - L) (by rw [List.length_drop, HNB.out]; omega) (Src.drop (k := L) (HS.out.below (HF.out.below.trans (hW.mono HF.out.below.size))) (by rw [HNB.out]; omega))
          rwa [show (bs.drop L).take (k - L) = (bs.take k).drop L by rw [List.drop_take]] at this
        have S := hidp (fun W hW => And.intro (s1 W hW) (And.intro (s2 W hW) (And.intro (s3 W hW) hW)))
        have HQ := hidp hq
        have HLX := hidp hlX
        clear hO s1 s2 s3 hq hv hlX
        go_wp2_with fail
        go_region_held (fun W => (convert 27 9 (.slice a4 L c4)).run Try.prog W = .ok (.string (strOfNums (bs.take L))) W ∧ (convert 27 9 (.slice (some ad) L c)).run Try.prog W = .ok (.string (strOfNums (bs.take L))) W ∧ (convert 27 9 (.slice (some (ad.add L)) (k - L) (c - L))).run Try.prog W = .ok (.string (strOfNums ((bs.take k).drop L))) W ∧ Below wr.heap.size wr W)
          (first | exact S.out _ (by assumption) | exact S.out _ (Below.refl _ _).drew)
          (first
            | (go_at_call 13
               refine (bytes_any w.heap.size q v _ m false _ HQ.out.drew).mono ?_
               rintro e w2 ⟨y1, rfl, O1, B1⟩
               have B2 : Below wr.heap.size wr w2 := (Below.refl _ _).drew.trans B1
               have E1 := str_of O1
               obtain ⟨a1, c1, rfl⟩ := O1.slice
               rw [HLX.out] at E1 ⊢
               clear O1 B1)
            | (go_at_call 7
               refine (awake_any _).mono ?_
               rintro e w3 ⟨rfl, B3⟩
               have B4 := B2.trans (B3.mono B2.size)))
        go_wp2
        go_ret
        exact ⟨rfl, HF.out.below.trans (B4.mono HF.out.below.size)⟩
end Go.Proofs.Ytfcfckcpmjccoaa
