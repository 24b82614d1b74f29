/- The law CursorLives answers true, whatever the two numbers. -/
import Derived.Test.YtkmhdffkganhaaaCK
namespace Go.Proofs.Ytkmhdffkganhaaa
open Go.RowKit

def Cur.aged (c : Cur) (k : Int) : Cur := { c with age := k }

set_option maxRecDepth 100000 in
set_option maxHeartbeats 4000000 in
theorem lives_any (l mv : Nat) (hl : l ≤ 255) (hmv : mv ≤ 255) (w : World) : Calls Try.prog 3 #[.int .u8 l, .int .u8 mv] w fun e w' => e = .returned (.bool true) ∧ Below w.heap.size w w' := by
  obtain ⟨n, hn⟩ : ∃ n : Nat, n = l % 40 + 1 := ⟨_, rfl⟩
  have hn1 : 1 ≤ n ∧ n ≤ 40 := by omega
  have HN : Hid ((l : Int) % 40 + 1 = (n : Int)) := by show _ = _; omega
  obtain ⟨m, hm⟩ : ∃ m : Nat, m = mv % n := ⟨_, rfl⟩
  have hmn : m < n := by rw [hm]; exact Nat.mod_lt _ (by omega)
  have HM : Hid ((mv : Int) % (n : Int) = (m : Int)) := by show _ = _; rw [hm]; rfl
  clear hn hm
  go_enter Try.func3, Try.ntmps3
  go_wp2_with fail
  rw [HN.out, HM.out]
  refine (new_any 2 n w).mono ?_
  rw [show capM 2 = 2 from rfl, show capL n = n by unfold capL; rw [if_neg (by omega)]]
  rintro e w1 ⟨b, rfl, T1, hB1⟩
  have H1 := hidp (And.intro T1 hB1)
  clear T1 hB1 HN HM
  go_wp2_with fail
  refine (open_any w.heap.size b _ [] 2 n 0 (cur0 3) [] w1 H1.out.1 (by simp) (by omega) (srcV_none _) (by decide) (by intro _; exact ⟨rfl, rfl⟩) (by intro ad h; cases h)).mono ?_
  rintro e w2 ⟨a2, c2, o2, rfl, (⟨-, rfl, v2, T2⟩ | ⟨h, -⟩), -, F2⟩
  rotate_left
  · exact absurd h (by decide)
  have B2 := H1.out.1.frame F2 H1.out.2 H1.out.2.size
  obtain ⟨c, hc⟩ : ∃ c, c = (cur0 3).fresh 1 a2 c2 := ⟨_, rfl⟩
  have hid : Hid (c.id = 1 ∧ c.owner = 3) := by show _ ∧ _; rw [hc]; exact ⟨rfl, rfl⟩
  have H2 : Hid ((∃ v, TabIs w2 w.heap.size b v [c.aged 0] 2 n 1) ∧ Below w.heap.size w w2) := ⟨⟨v2, by rw [hc]; exact T2⟩, B2⟩
  clear T2 F2 B2 H1 hc
  -- one tick of the only cursor
  have TK : Hid (∀ (d : Cur) (k : Nat) (W : World), (∃ v, TabIs W w.heap.size b v [d.aged k] 2 n 1) → Below w.heap.size w W → k < n → Calls Try.prog 9 #[.pointer (some ⟨b, 0, none⟩)] W fun e W' =>
      (∃ a q, e = .returned (.slice a (if k + 1 < n then 0 else 1) q)) ∧ (∃ v, TabIs W' w.heap.size b v (if k + 1 < n then [d.aged (k + 1)] else []) 2 n 1) ∧ Below w.heap.size w W') := by
    rintro d k W ⟨v, T⟩ hB hk
    refine (tick_any w.heap.size b v _ 2 n 1 W T (by simp) (fun y hy => by
      rw [List.mem_singleton.1 hy]; show 0 ≤ (k : Int) ∧ (k : Int) ≤ 1000000; omega)).mono ?_
    rintro e W' ⟨o, rfl, hO, hT, hF⟩
    have hB' := T.frame hF hB hB.size
    have hold : [d.aged k].map Cur.older = [d.aged (k + 1)] := rfl
    rw [hold] at hO hT
    by_cases hk1 : k + 1 < n
    · have hd : decide ((n : Int) ≤ (d.aged (k + 1)).age) = false := by rw [decide_eq_false_iff_not]; show ¬ (n : Int) ≤ (k : Int) + 1; omega
      simp only [List.filter_cons, hd, List.filter_nil, Bool.not_false, if_true, Bool.false_eq_true, if_false] at hO hT
      rw [if_pos hk1, if_pos hk1]
      obtain ⟨a, q, ho, -⟩ := hO.row
      exact ⟨⟨a, q, by rw [ho]; rfl⟩, hT, hB'⟩
    · have hd : decide ((n : Int) ≤ (d.aged (k + 1)).age) = true := by rw [decide_eq_true_iff]; show (n : Int) ≤ (k : Int) + 1; omega
      simp only [List.filter_cons, hd, List.filter_nil, Bool.not_true, if_true, Bool.false_eq_true, if_false] at hO hT
      rw [if_neg hk1, if_neg hk1]
      obtain ⟨a, q, ho, -⟩ := hO.row
      exact ⟨⟨a, q, by rw [ho]; rfl⟩, hT, hB'⟩
  go_wp2
  go_loopw [10] (fun i wr => ∃ k : Nat, k ≤ m ∧ i = .int .i64 k ∧ Hid ((∃ v, TabIs wr w.heap.size b v [c.aged k] 2 n 1) ∧ Below w.heap.size w wr)) (fun i _ => m - (intOf i).toNat)
  case atStart => exact ⟨0, by omega, rfl, H2⟩
  case round =>
    obtain ⟨k, hk, rfl, HK⟩ := hrel
    clear H2
    by_cases hlt : k < m
    · have l1 : (k : Int) < (m : Int) := by omega
      go_wp2_with fail
      refine (TK.out c k wr HK.out.1 HK.out.2 (by omega)).mono ?_
      rw [if_pos (by omega), if_pos (by omega)]
      rintro e w3 ⟨⟨a3, q3, rfl⟩, T3, B3⟩
      have H3 := hidp (And.intro T3 B3)
      clear T3 B3
      go_wp2
      go_roundw
      case rel => exact ⟨k + 1, by omega, by go_num, H3⟩
      case measure => simp [intOf]; omega
    · obtain rfl : k = m := by omega
      have l1 : ¬ (k : Int) < (k : Int) := by omega
      obtain ⟨⟨v3, T3⟩, B3⟩ := HK.out
      go_wp2_with fail
      refine (move_yes w.heap.size b v3 [c.aged k] 2 n 1 3 1 0 1 0 wr T3 (by simp) (by simp) (by
        have := hid.out
        simp [idxC, isAt, Cur.aged, this.1, this.2])).mono ?_
      rintro e w4 ⟨rfl, T4, F4⟩
      have B4 := T3.frame F4 B3 B3.size
      obtain ⟨d, hd⟩ : ∃ d, d = (c.aged k).moved 0 1 := ⟨_, rfl⟩
      have hidd : Hid (d.id = 1 ∧ d.owner = 3) := by show _ ∧ _; rw [hd]; exact hid.out
      have H4 : Hid ((∃ v, TabIs w4 w.heap.size b v (if 0 < n then [d.aged 0] else []) 2 n 1) ∧ Below w.heap.size w w4) := ⟨⟨v3, by rw [if_pos (by omega), hd]; exact T4⟩, B4⟩
      clear T3 T4 F4 B4 B3 HK hd
      go_wp2
      go_loopw [11] (fun i wr => ∃ j : Nat, j ≤ n ∧ i = .int .i64 (j + 1) ∧ Hid ((∃ v, TabIs wr w.heap.size b v (if j < n then [d.aged j] else []) 2 n 1) ∧ Below w.heap.size w wr)) (fun i _ => n + 1 - (intOf i).toNat)
      case atStart => exact ⟨0, by omega, rfl, H4⟩
      case round =>
        obtain ⟨j, hj, rfl, HJ⟩ := hrel
        clear H4
        by_cases hjn : j < n
        · have l2 : (j : Int) + 1 ≤ (n : Int) := by omega
          have hTj := HJ.out.1
          rw [if_pos hjn] at hTj
          by_cases hlast : j + 1 < n
          · have l3 : (j : Int) + 1 < (n : Int) := by omega
            have l4 : ¬ ((j : Int) + 1 = (n : Int)) := by omega
            go_wp2_with fail
            refine (TK.out d j _ hTj HJ.out.2 hjn).mono ?_
            rw [if_pos hlast, if_pos hlast]
            rintro e w5 ⟨⟨a5, q5, rfl⟩, ⟨v5, T5⟩, B5⟩
            go_wp2_with fail
            refine (get_any w.heap.size b v5 [d.aged (j + 1)] 2 n 1 3 1 w5 T5 (by simp)).mono ?_
            rintro e w6 ⟨(⟨h, -⟩ | ⟨j6, hj6, -, rfl⟩), B6⟩
            · exfalso
              have := hidd.out
              simp [idxC, isAt, Cur.aged, this.1, this.2] at h
            have H6 : Hid ((∃ v, TabIs w6 w.heap.size b v (if j + 1 < n then [d.aged (j + 1)] else []) 2 n 1) ∧ Below w.heap.size w w6) := ⟨⟨v5, by rw [if_pos hlast]; exact T5.below B6 (Nat.le_refl _)⟩, B5.trans (B6.mono B5.size)⟩
            clear T5 B5 B6 hTj HJ
            unfold Cur.val
            generalize [d.aged (j + 1)][j6] = x6
            go_wp2_with (first
              | (with_reducible refine wpList_store_row rfl 34 (.tmp 13) (.tmp 54) rfl w6.heap.size x6.cells.toArray rfl rfl 34 _ (heap_alloc_new w6 _) (by rw [List.size_toArray, Cur.len]; exact Try.info34) rfl (all_one x6) ?_
                 rw [World.setRow_alloc_new]
                 have B7 := (Below.refl w6.heap.size w6).alloc (Nat.le_refl _) (.cells x6.cells.toArray 34)
                 have H7 := hidp (And.intro (H6.out.1.imp fun _ h => h.below B7 (Nat.le_refl _)) (H6.out.2.trans (B7.mono H6.out.2.size)))
                 generalize w6.alloc (.cells x6.cells.toArray 34) = w7 at *
                 clear B7))
            go_roundw
            case rel => exact ⟨j + 1, by omega, by go_num, H7⟩
            case measure => simp [intOf]; omega
          · have l3 : ¬ ((j : Int) + 1 < (n : Int)) := by omega
            have l4 : (j : Int) + 1 = (n : Int) := by omega
            have l5 : ((j : Int) + 1 == (n : Int)) = true := by rw [l4]; exact beq_self_eq_true _
            clear l4
            go_wp2_with fail
            refine (TK.out d j _ hTj HJ.out.2 hjn).mono ?_
            rw [if_neg hlast, if_neg hlast]
            rintro e w5 ⟨⟨a5, q5, rfl⟩, ⟨v5, T5⟩, B5⟩
            go_wp2_with fail
            refine (get_any w.heap.size b v5 [] 2 n 1 3 1 w5 T5 (by simp)).mono ?_
            rintro e w6 ⟨(⟨-, rfl⟩ | ⟨j6, hj6, -⟩), B6⟩
            rotate_left
            · exact absurd hj6 (by simp)
            have H6 : Hid ((∃ v, TabIs w6 w.heap.size b v (if j + 1 < n then [d.aged (j + 1)] else []) 2 n 1) ∧ Below w.heap.size w w6) := ⟨⟨v5, by rw [if_neg hlast]; exact T5.below B6 (Nat.le_refl _)⟩, B5.trans (B6.mono B5.size)⟩
            clear T5 B5 B6 hTj HJ
            go_wp2_with (first
              | (with_reducible refine wpList_store_row rfl 34 (.tmp 13) (.tmp 54) rfl w6.heap.size zarr34 rfl rfl 34 _ (heap_alloc_new w6 _) Try.info34z rfl zarr_one ?_
                 rw [World.setRow_alloc_new]
                 have B7 := (Below.refl w6.heap.size w6).alloc (Nat.le_refl _) (.cells zarr34 34)
                 have H7 := hidp (And.intro (H6.out.1.imp fun _ h => h.below B7 (Nat.le_refl _)) (H6.out.2.trans (B7.mono H6.out.2.size)))
                 generalize w6.alloc (.cells zarr34 34) = w7 at *
                 clear B7))
            go_roundw
            case rel => exact ⟨j + 1, by omega, by go_num, H7⟩
            case measure => simp [intOf]; omega
        · have l2 : ¬ ((j : Int) + 1 ≤ (n : Int)) := by omega
          go_wp2_with (first | (go_at_call 12; refine (awake_any _).mono ?_; rintro e w9 ⟨rfl, B9⟩))
          go_ret
          exact ⟨rfl, HJ.out.2.trans (B9.mono HJ.out.2.size)⟩
end Go.Proofs.Ytkmhdffkganhaaa
