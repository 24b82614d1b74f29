/- What the document's queue does, further: New, Clear, Same, Put, Line. -/
import Derived.Test.YtfcfckcpmjccoaaQR
import Derived.Test.YtfcfckcpmjccoaaQA
namespace Go.Proofs.Ytfcfckcpmjccoaa
open Go.RowKit

theorem rnew_any (n : Int) (w : World) : Calls Try.prog 15 #[.int .i64 n] w fun e w' => ∃ b, e = .returned (.pointer (some ⟨b, 0, none⟩)) ∧ QIs w' 44 w.heap.size b (.slice none 0 0) [] (capQ n) false ∧ Below w.heap.size w w' := by
  rcases (by omega : n < 0 ∨ 0 ≤ n ∧ n ≤ 65536 ∨ 65536 < n) with h | ⟨h, h2⟩ | h
  · have l2 : ¬ 65536 < n := by omega
    go_enter Try.func15, Try.ntmps15
    go_wp2
    go_ret
    refine ⟨_, rfl, ⟨?_, OwnMid.nil _ _ _, Nat.le_refl _, by simp, by simp, by unfold capQ; omega, by decide⟩, ?_⟩
    · rw [show ((capQ n : Nat) : Int) = 0 by unfold capQ; omega, heap_alloc_new]
    · exact (Below.refl _ _).alloc (Nat.le_refl _) _
  · obtain ⟨m, rfl⟩ := Int.eq_ofNat_of_zero_le h
    have l1 : ¬ (m : Int) < 0 := by omega
    have l2 : ¬ 65536 < (m : Int) := by omega
    go_enter Try.func15, Try.ntmps15
    go_wp2
    go_ret
    refine ⟨_, rfl, ⟨?_, OwnMid.nil _ _ _, Nat.le_refl _, by simp, by simp, by unfold capQ; omega, by decide⟩, ?_⟩
    · rw [show ((capQ m : Nat) : Int) = m by unfold capQ; omega, heap_alloc_new]
    · exact (Below.refl _ _).alloc (Nat.le_refl _) _
  · have l1 : ¬ n < 0 := by omega
    go_enter Try.func15, Try.ntmps15
    go_wp2
    go_ret
    refine ⟨_, rfl, ⟨?_, OwnMid.nil _ _ _, Nat.le_refl _, by simp, by simp, by unfold capQ; omega, by decide⟩, ?_⟩
    · rw [show ((capQ n : Nat) : Int) = 65536 by unfold capQ; omega, heap_alloc_new]
    · exact (Below.refl _ _).alloc (Nat.le_refl _) _

theorem rclear_any (base b : Nat) (v : Value) (xs : List Int) (most : Nat) (skip : Bool) (w : World) (h : QIs w 44 base b v xs most skip) :
    Calls Try.prog 21 #[.pointer (some ⟨b, 0, none⟩)] w fun e w' => e = .returned (.int .i64 xs.length) ∧ QIs w' 44 base b (.slice none 0 0) [] most false ∧ Frame1 b w w' := by
  have H := hidp h
  obtain ⟨a, c, rfl⟩ := h.own.slice
  obtain ⟨c0, -, c2, f0, f2⟩ := h.cells (Below.refl _ _)
  clear h
  go_enter Try.func21, Try.ntmps21
  go_wp2
  go_ret
  obtain ⟨q1, q2⟩ := H.out.put (ys := []) (o := .slice none 0 0) (Below.refl _ _) (OwnMid.nil _ _ _) (by simp) (by simp)
  obtain ⟨q3, q4⟩ := q1.skipTo false
  exact ⟨rfl, q3, q2.trans q4⟩

theorem same_yes (base base' : Nat) (v v' : Value) (n m : Nat) (xs : List Int) (w : World) (h : OwnMid w base 5 v n (xs.map (Value.int .u8))) (h' : OwnMid w base' 5 v' m (xs.map (Value.int .u8))) :
    Calls Try.prog 17 #[v, v'] w fun e w' => e = .returned (.bool true) ∧ w = w' := by
  obtain rfl : n = xs.length := by have := h.1; simpa using this.symm
  obtain rfl : m = xs.length := by have := h'.1; simpa using this.symm
  have s1 := str_of h
  have s2 := str_of h'
  obtain ⟨a, c, rfl⟩ := h.slice
  obtain ⟨a', c', rfl⟩ := h'.slice
  clear h h'
  go_enter Try.func17, Try.ntmps17
  go_wp2
  go_ret
  exact ⟨rfl, rfl⟩

set_option maxHeartbeats 2000000 in
theorem rline_any (base b : Nat) (v : Value) (xs : List Int) (most : Nat) (skip : Bool) (n : Int) (w : World) (h : QIs w 44 base b v xs most skip) :
    Calls Try.prog 19 #[.pointer (some ⟨b, 0, none⟩), .int .i64 n] w fun e w' =>
      (∃ i v', nlAt xs = some i ∧ i ≤ n.toNat ∧ e = .returned (.tuple #[v', .bool true, .bool false]) ∧ OwnMid w' w.heap.size 5 v' i ((xs.take i).map (Value.int .u8)) ∧ (∃ v'', QIs w' 44 base b v'' (xs.drop (i + 1)) most skip) ∧ Frame1 b w w') ∨
      (((∃ i, nlAt xs = some i ∧ n.toNat < i) ∨ (nlAt xs = none ∧ n.toNat < xs.length)) ∧ e = .returned (.tuple #[.slice none 0 0, .bool true, .bool true]) ∧ (∃ v'', QIs w' 44 base b v'' (passX xs) most (passS xs true)) ∧ Frame1 b w w') ∨
      (nlAt xs = none ∧ xs.length ≤ n.toNat ∧ e = .returned (.tuple #[.slice none 0 0, .bool false, .bool false]) ∧ w = w') := by
  have H := hidp h
  have hl := h.len
  have hm := h.max
  have hblt := ltOf h.blk
  obtain ⟨a, c, rfl⟩ := h.own.slice
  obtain ⟨c0, -, c2, f0, f2⟩ := h.cells (Below.refl _ _)
  clear h
  obtain ⟨M, hM⟩ : ∃ M, M = n.toNat := ⟨_, rfl⟩
  rw [← hM]
  have hn2 : (n < 0 ∧ Hid (M = 0)) ∨ (0 ≤ n ∧ Hid (n = (M : Int))) := by
    rcases (by omega : n < 0 ∨ 0 ≤ n) with h | h
    · exact .inl ⟨h, by show M = 0; omega⟩
    · exact .inr ⟨h, by show n = (M : Int); omega⟩
  clear hM
  go_enter Try.func19, Try.ntmps19
  go_upto_if 12 with (fail)
  go_cut [7] (fun v wx => v = .int .i64 (M : Int) ∧ wx = w)
  case first =>
    rcases hn2 with ⟨h1, h2⟩ | ⟨h1, h2⟩
    · go_wp2
      go_meet
      exact ⟨by rw [h2.out]; rfl, rfl⟩
    · go_wp2
      go_meet
      exact ⟨by rw [← h2.out], rfl⟩
  case rest =>
    obtain ⟨rfl, rfl⟩ := hcut
    go_wp2
    go_loop [8] (fun i => ∃ j : Nat, j ≤ xs.length ∧ j ≤ M + 1 ∧ i = .int .i64 j ∧ Hid (NlFrom xs j)) (fun i => xs.length - (intOf i).toNat)
    case atStart => exact ⟨0, by omega, by omega, rfl, nlFrom_zero xs⟩
    case round =>
      obtain ⟨j, hj, hjM, rfl, HN⟩ := hrel
      by_cases hlt : j < xs.length ∧ j ≤ M
      · obtain ⟨l1', l2'⟩ := hlt
        obtain ⟨g, off, cap, hv, -⟩ := H.out.at_pos (by omega)
        cases hv
        have cx := H.out.nth (Below.refl _ _) j l1'
        have l1 : (j : Int) < (xs.length : Int) := by omega
        have l2 : (j : Int) ≤ (M : Int) := by omega
        by_cases hx : xs[j] = 10
        · have HF := hidp (nlFrom_hit HN.out l1' hx)
          have ht : takeN xs (j : Int) = j := by unfold takeN; omega
          have HT := hidp ht
          rw [hx] at cx
          clear hx ht
          go_wp2_with fail
          refine (rtake_any base b _ xs most skip (j : Int) _ H.out).mono ?_
          rw [HT.out]
          rintro e w1 ⟨v1, rfl, hO1, ⟨u1, Q1⟩, F1⟩
          have H1 := hidp (And.intro hO1 (And.intro Q1 F1))
          obtain ⟨a1, c1, rfl⟩ := hO1.slice
          clear hO1 Q1 F1
          go_wp2_with fail
          refine (rdrop_any base b _ (xs.drop j) most skip 1 w1 H1.out.2.1).mono ?_
          rintro e w2 ⟨rfl, ⟨u2, Q2⟩, F2⟩
          have H2 := hidp (And.intro Q2 F2)
          clear Q2 F2
          go_wp2
          go_returns
          obtain ⟨hO1, _, F1⟩ := H1.out
          obtain ⟨Q2, F2⟩ := H2.out
          rw [List.drop_drop] at Q2
          exact .inl ⟨j, _, HF.out, l2', rfl, hO1.frame1 F2 hblt, ⟨_, Q2⟩, F1.trans F2⟩
        · have HF := hidp (nlFrom_step HN.out l1' hx)
          obtain ⟨x, hx'⟩ : ∃ x, x = xs[j] := ⟨_, rfl⟩
          rw [← hx'] at cx hx
          clear hx'
          go_wp2
          go_round
          case rel => exact ⟨j + 1, by omega, by omega, by go_num, HF⟩
          case measure => simp [intOf]; omega
      · by_cases hMl : M < xs.length
        · have l0 : ¬ (j : Int) ≤ (M : Int) := by omega
          have l3 : (M : Int) < (xs.length : Int) := by omega
          have hc : Hid ((∃ i, nlAt xs = some i ∧ M < i) ∨ (nlAt xs = none ∧ M < xs.length)) := by
            show _ ∨ _
            cases hi : nlAt xs with
            | none => exact .inr ⟨rfl, hMl⟩
            | some i => exact .inl ⟨i, rfl, by have := nlFrom_ge HN.out hi; omega⟩
          have q := hidp (H.out.skipTo true)
          go_wp2_with fail
          refine (rpass_any base b _ xs most true _ q.out.1).mono ?_
          rintro e w2 ⟨rfl, hQ2, hF2⟩
          go_wp2
          go_returns
          exact .inr (.inl ⟨hc.out, rfl, hQ2, q.out.2.trans hF2⟩)
        · have l3 : ¬ (M : Int) < (xs.length : Int) := by omega
          have hjl : ¬ j < xs.length := by omega
          have HF := hidp (nlFrom_end HN.out hjl)
          have l4 : ¬ (j : Int) < (xs.length : Int) := by omega
          have l5 : (j : Int) ≤ (M : Int) := by omega
          go_wp2
          go_returns
          exact .inr (.inr ⟨HF.out, by omega, rfl, rfl⟩)
end Go.Proofs.Ytfcfckcpmjccoaa
