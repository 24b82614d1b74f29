/- The law VersionPins answers true, whatever number and side. -/
import Derived.Test.YtacnphokgggmdaaVI
import Derived.Test.YtacnphokgggmdaaAwake
namespace Go.Proofs.Ytacnphokgggmdaa
open Go.RowKit

def hSt (i : Int) : St := { head := 0, g := fun j => if j = 0 then some (.int .i64 3, i) else none, n := 1 }
def tSt (i : Int) : St := { head := 1, g := fun j => if j = 1 then some (.int .i64 4, 0) else if j = 0 ∧ 0 < i then some (.int .i64 3, i) else none, n := if 0 < i then 2 else 1 }
def z0 : Value := .int .i64 0
theorem St.same {a b : St} (h1 : a.head = b.head) (h2 : ∀ k, a.g k = b.g k) (h3 : a.n = b.n) : a = b := by
  cases a; cases b
  have := funext h2
  simp at h1 h3 this
  rw [h1, h3, this]
theorem hSt_pin (i : Int) : (hSt i).pin z0 = hSt (i + 1) := by
  refine St.same rfl (fun k => ?_) rfl
  simp only [St.pin, St.put, hSt, St.val, St.pins]
  split <;> simp
theorem hSt_pins (i : Int) : (hSt i).pins 0 = i := rfl
theorem tSt_pins (i : Int) (h : 0 ≤ i) : (tSt i).pins 0 = i := by
  simp only [St.pins, tSt]
  by_cases h0 : 0 < i
  · simp [h0]
  · have : i = 0 := by omega
    subst this; simp
theorem hSt_commit (i : Int) (h : 0 ≤ i) : (hSt i).commit (.int .i64 4) = tSt i := by
  unfold St.commit St.tidy
  by_cases h0 : 0 < i
  · rw [if_neg (by simp [St.put, hSt, St.pins]; omega)]
    refine St.same rfl (fun k => ?_) (by simp [St.put, hSt, tSt, h0])
    simp only [St.put, hSt, tSt]
    by_cases h1 : k = 1
    · simp [h1]
    · by_cases h2 : k = 0 <;> simp [h1, h2, h0]
  · have : i = 0 := by omega
    subst this
    rw [if_pos (by simp [St.put, hSt, St.pins])]
    refine St.same rfl (fun k => ?_) (by simp [St.put, St.drop, hSt, tSt])
    simp only [St.put, St.drop, hSt, tSt]
    by_cases h2 : k = 0
    · simp [h2]
    · by_cases h1 : k = 1 <;> simp [h1, h2]
theorem hSt_release (i : Int) (h : 0 < i) : (hSt i).release z0 0 = hSt (i - 1) := by
  unfold St.release St.tidy
  rw [if_neg (by rw [hSt_pins]; omega), if_neg (by simp [St.put, hSt])]
  refine St.same rfl (fun k => ?_) rfl
  simp only [St.put, hSt, St.val, St.pins]
  split <;> simp
theorem tSt_release (i : Int) (h : 0 < i) : (tSt i).release z0 0 = tSt (i - 1) := by
  unfold St.release St.tidy
  rw [if_neg (by rw [tSt_pins i (by omega)]; omega), tSt_pins i (by omega)]
  have hv : (tSt i).val z0 0 = .int .i64 3 := by simp [St.val, tSt, h]
  rw [hv]
  by_cases h1 : i = 1
  · subst h1
    rw [if_pos (by simp [St.put, tSt, St.pins])]
    refine St.same rfl (fun k => ?_) (by simp [St.put, St.drop, tSt])
    simp only [St.put, St.drop, tSt]
    by_cases h2 : k = 0
    · simp [h2]
    · by_cases h3 : k = 1 <;> simp [h2, h3]
  · rw [if_neg (by simp [St.put, tSt, St.pins]; omega)]
    refine St.same rfl (fun k => ?_) (by simp [St.put, tSt, h]; omega)
    simp only [St.put, tSt]
    by_cases h2 : k = 0
    · subst h2; simp; omega
    · simp [h2]

theorem tSt_val (i : Int) (h : 0 < i) : (tSt i).val (.int .i64 0) 0 = .int .i64 3 := by simp [St.val, tSt, h]
set_option maxHeartbeats 4000000 in
theorem pins_true (n : Int) (w : World) (hn : 0 ≤ n) (hn' : n ≤ 255) : Calls Try.prog 4 #[.int .u8 n, .bool true] w fun e w' => e = .returned (.bool true) ∧ Below w.heap.size w w' := by
  obtain ⟨m, hm, hm2⟩ : ∃ m : Nat, n % 20 = (m : Int) ∧ m < 20 := ⟨(n % 20).toNat, by omega, by omega⟩
  have HMM := hidp hm
  clear hm
  go_enter Try.func4, Try.ntmps4
  go_wp2_with fail
  refine (I.new_any (.int .i64 3) _ ⟨_, rfl⟩).mono ?_
  rintro e w1 ⟨b, mb, rfl, S1, hb, hmb, hbel1⟩
  have H1 := hidp (show I.StoreIs w1 b mb (hSt 0) from S1)
  clear S1
  go_wp2
  rw [HMM.out]
  go_loopw [7] (fun i wr => ∃ k : Nat, k ≤ m ∧ i = .int .i64 k ∧ Hid (I.StoreIs wr b mb (hSt k)) ∧ Below w.heap.size w wr) (fun i _ => m - (intOf i).toNat)
  case atStart => exact ⟨0, by omega, rfl, H1, hbel1⟩
  case round =>
    obtain ⟨k, hk, rfl, HS, hbel⟩ := hrel
    by_cases hlt : k < m
    · have l1 : (k : Int) < (m : Int) := by omega
      go_wp2_with fail
      refine (I.pin_yes b mb (hSt k) _ HS.out (by rw [show (hSt k).head = 0 from rfl, hSt_pins]; omega) (by rw [show (hSt k).head = 0 from rfl, hSt_pins]; omega) ⟨3, rfl⟩).mono ?_
      rintro e w2 ⟨rfl, S2, hF2⟩
      have HS2 : Hid (I.StoreIs w2 b mb (hSt (↑(k + 1)))) := by have := S2; rw [show St.pin (.int .i64 0) (hSt k) = hSt (k + 1) from hSt_pin k] at this; exact this
      have hb2 := hbel.trans (hF2.below hbel.size hb hmb)
      clear S2 hF2 HS
      go_wp2
      go_roundw
      case rel => exact ⟨k + 1, by omega, by go_num, HS2, hb2⟩
      case measure => simp [intOf]; omega
    · obtain rfl : k = m := by omega
      clear hlt hk HMM
      have HS3 : Hid (I.StoreIs wr b mb (hSt k)) := HS
      have hb3 := hbel
      go_wp2
      go_loopw [8] (fun i wr => ∃ j : Nat, j ≤ k ∧ i = .int .i64 j ∧ Hid (I.StoreIs wr b mb (hSt j)) ∧ Below w.heap.size w wr) (fun i _ => (intOf i).toNat)
      case atStart => exact ⟨k, by omega, rfl, HS3, hb3⟩
      case round =>
        obtain ⟨j, hj, rfl, HS4, hb4⟩ := hrel
        have hpj := hSt_pins j 
        by_cases hpos : 0 < j
        · have l1 : (0 : Int) < (j : Int) := by omega
          have HP := hidp hpj
          clear hpj
          go_wp2_with fail
          refine (I.pins_yes b mb (hSt j) 0 _ HS4.out).mono ?_
          rintro e w5 ⟨rfl, rfl⟩
          rw [HP.out]
          go_wp2_with fail
          refine (I.release_yes b mb (hSt j) 0 _ HS4.out (by rw [HP.out]; omega) (by rw [HP.out]; omega) ⟨3, rfl⟩).mono ?_
          rintro e w5 ⟨rfl, S5, hF5⟩
          have HS5 : Hid (I.StoreIs w5 b mb (hSt (↑(j - 1)))) := by
            have := S5
            rw [show St.release (.int .i64 0) (hSt j) 0 = hSt (j - 1) from hSt_release j (by omega), show (j : Int) - 1 = ((j - 1 : Nat) : Int) by omega] at this
            exact this
          have hb5 := hb4.trans (hF5.below hb4.size hb hmb)
          clear S5 hF5 HS4
          go_wp2
          go_roundw
          case rel => exact ⟨j - 1, by omega, congrArg (Value.int .i64) (by omega), HS5, hb5⟩
          case measure => simp [intOf]; omega
        · obtain rfl : j = 0 := by omega
          clear hpos hj hpj
          have HS6 : Hid (I.StoreIs _ b mb (hSt 0)) := HS4
          clear HS4
          go_wp2_with fail
          refine (I.at_yes b mb (hSt 0) 0 _ HS6.out ⟨3, rfl⟩).mono ?_
          rintro e w6 ⟨rfl, hbel6⟩
          have HS7 := hidp (HS6.out.below hbel6 (Nat.le_refl _))
          have hb6 := hb4.trans (hbel6.mono hb4.size)
          clear HS6 hbel6
          rw [show St.val (.int .i64 0) (hSt 0) 0 = .int .i64 3 from rfl, show ((hSt 0).g 0).isSome = true from rfl]
          go_wp2_with fail
          refine (I.release_no b mb (hSt 0) 0 _ HS7.out rfl).mono ?_
          rintro e w7 ⟨rfl, rfl⟩
          go_wp2_with fail
          refine (I.pins_yes b mb (hSt 0) 0 _ HS7.out).mono ?_
          rintro e w7 ⟨rfl, rfl⟩
          rw [show (hSt 0).pins 0 = 0 from rfl]
          go_wp2_with fail
          refine (I.live_yes b mb (hSt 0) _ HS7.out).mono ?_
          rintro e w7 ⟨rfl, rfl⟩
          rw [show ((hSt 0).n : Int) = 1 from rfl]
          go_wp2_with fail
          refine (awake_any _).mono ?_
          rintro e w8 ⟨rfl, hbel8⟩
          go_wp2
          go_ret
          exact ⟨rfl, hb6.trans (hbel8.mono hb6.size)⟩

set_option maxHeartbeats 4000000 in
theorem pins_false (n : Int) (w : World) (hn : 0 ≤ n) (hn' : n ≤ 255) : Calls Try.prog 4 #[.int .u8 n, .bool false] w fun e w' => e = .returned (.bool true) ∧ Below w.heap.size w w' := by
  obtain ⟨m, hm, hm2⟩ : ∃ m : Nat, n % 20 = (m : Int) ∧ m < 20 := ⟨(n % 20).toNat, by omega, by omega⟩
  have HMM := hidp hm
  clear hm
  go_enter Try.func4, Try.ntmps4
  go_wp2_with fail
  refine (I.new_any (.int .i64 3) _ ⟨_, rfl⟩).mono ?_
  rintro e w1 ⟨b, mb, rfl, S1, hb, hmb, hbel1⟩
  have H1 := hidp (show I.StoreIs w1 b mb (hSt 0) from S1)
  clear S1
  go_wp2
  rw [HMM.out]
  go_loopw [7] (fun i wr => ∃ k : Nat, k ≤ m ∧ i = .int .i64 k ∧ Hid (I.StoreIs wr b mb (hSt k)) ∧ Below w.heap.size w wr) (fun i _ => m - (intOf i).toNat)
  case atStart => exact ⟨0, by omega, rfl, H1, hbel1⟩
  case round =>
    obtain ⟨k, hk, rfl, HS, hbel⟩ := hrel
    by_cases hlt : k < m
    · have l1 : (k : Int) < (m : Int) := by omega
      go_wp2_with fail
      refine (I.pin_yes b mb (hSt k) _ HS.out (by rw [show (hSt k).head = 0 from rfl, hSt_pins]; omega) (by rw [show (hSt k).head = 0 from rfl, hSt_pins]; omega) ⟨3, rfl⟩).mono ?_
      rintro e w2 ⟨rfl, S2, hF2⟩
      have HS2 : Hid (I.StoreIs w2 b mb (hSt (↑(k + 1)))) := by have := S2; rw [show St.pin (.int .i64 0) (hSt k) = hSt (k + 1) from hSt_pin k] at this; exact this
      have hb2 := hbel.trans (hF2.below hbel.size hb hmb)
      clear S2 hF2 HS
      go_wp2
      go_roundw
      case rel => exact ⟨k + 1, by omega, by go_num, HS2, hb2⟩
      case measure => simp [intOf]; omega
    · obtain rfl : k = m := by omega
      clear hlt hk HMM
      go_wp2_with fail
      refine (I.commit_yes b mb (hSt k) (.int .i64 4) _ HS.out (by show (0 : Int) ≤ 0; omega) (by show (0 : Int) ≤ 1000000000; omega) ⟨4, rfl⟩).mono ?_
      rintro e w3 ⟨rfl, S3, hF3⟩
      have HS3 : Hid (I.StoreIs w3 b mb (tSt k)) := by have := S3; rw [hSt_commit k (by omega)] at this; exact this
      have hb3 := hbel.trans (hF3.below hbel.size hb hmb)
      clear S3 hF3 HS
      go_wp2
      go_loopw [8] (fun i wr => ∃ j : Nat, j ≤ k ∧ i = .int .i64 j ∧ Hid (I.StoreIs wr b mb (tSt j)) ∧ Below w.heap.size w wr) (fun i _ => (intOf i).toNat)
      case atStart => exact ⟨k, by omega, rfl, HS3, hb3⟩
      case round =>
        obtain ⟨j, hj, rfl, HS4, hb4⟩ := hrel
        have hpj := tSt_pins j (by omega)
        by_cases hpos : 0 < j
        · have l1 : (0 : Int) < (j : Int) := by omega
          have HP := hidp hpj
          clear hpj
          go_wp2_with fail
          refine (I.pins_yes b mb (tSt j) 0 _ HS4.out).mono ?_
          rintro e w5 ⟨rfl, rfl⟩
          rw [HP.out]
          go_wp2_with fail
          refine (I.release_yes b mb (tSt j) 0 _ HS4.out (by rw [HP.out]; omega) (by rw [HP.out]; omega) ⟨3, tSt_val j l1⟩).mono ?_
          rintro e w5 ⟨rfl, S5, hF5⟩
          have HS5 : Hid (I.StoreIs w5 b mb (tSt (↑(j - 1)))) := by
            have := S5
            rw [show St.release (.int .i64 0) (tSt j) 0 = tSt (j - 1) from tSt_release j (by omega), show (j : Int) - 1 = ((j - 1 : Nat) : Int) by omega] at this
            exact this
          have hb5 := hb4.trans (hF5.below hb4.size hb hmb)
          clear S5 hF5 HS4
          go_wp2
          go_roundw
          case rel => exact ⟨j - 1, by omega, congrArg (Value.int .i64) (by omega), HS5, hb5⟩
          case measure => simp [intOf]; omega
        · obtain rfl : j = 0 := by omega
          clear hpos hj hpj
          have HS6 : Hid (I.StoreIs _ b mb (tSt 0)) := HS4
          clear HS4
          go_wp2_with fail
          refine (I.at_yes b mb (tSt 0) 0 _ HS6.out ⟨0, rfl⟩).mono ?_
          rintro e w6 ⟨rfl, hbel6⟩
          have HS7 := hidp (HS6.out.below hbel6 (Nat.le_refl _))
          have hb6 := hb4.trans (hbel6.mono hb4.size)
          clear HS6 hbel6
          rw [show St.val (.int .i64 0) (tSt 0) 0 = .int .i64 0 from rfl, show ((tSt 0).g 0).isSome = false from rfl]
          go_wp2_with fail
          refine (I.release_no b mb (tSt 0) 0 _ HS7.out rfl).mono ?_
          rintro e w7 ⟨rfl, rfl⟩
          go_wp2_with fail
          refine (I.pins_yes b mb (tSt 0) 0 _ HS7.out).mono ?_
          rintro e w7 ⟨rfl, rfl⟩
          rw [show (tSt 0).pins 0 = 0 from rfl]
          go_wp2_with fail
          refine (I.live_yes b mb (tSt 0) _ HS7.out).mono ?_
          rintro e w7 ⟨rfl, rfl⟩
          rw [show ((tSt 0).n : Int) = 1 from rfl]
          go_wp2_with fail
          refine (awake_any _).mono ?_
          rintro e w8 ⟨rfl, hbel8⟩
          go_wp2
          go_ret
          exact ⟨rfl, hb6.trans (hbel8.mono hb6.size)⟩

theorem pins_law (n : Int) (hd : Bool) (w : World) (hn : 0 ≤ n) (hn' : n ≤ 255) : Calls Try.prog 4 #[.int .u8 n, .bool hd] w fun e w' => e = .returned (.bool true) ∧ Below w.heap.size w w' := by
  cases hd
  · exact pins_false n w hn hn'
  · exact pins_true n w hn hn'
end Go.Proofs.Ytacnphokgggmdaa
