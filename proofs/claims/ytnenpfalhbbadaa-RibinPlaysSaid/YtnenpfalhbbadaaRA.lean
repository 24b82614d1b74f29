/- The document's words on prefixes: Bit, Norm, Right. -/
import Derived.Test.YtnenpfalhbbadaaPW
import Derived.Test.YtnenpfalhbbadaaPG
import Derived.Deep.DeepMust
namespace Go.Proofs.Ytnenpfalhbbadaa
open Go.RowKit

set_option maxHeartbeats 1000000 in
theorem bit2_any (a i : Nat) (ha : a < 4294967296) (hi : i < 32) (w : World) : Calls Try.prog 67 #[.int .u32 (a : Int), .int .i64 (i : Int)] w fun e w' => e = .returned (.int .i64 ((a / 2 ^ (31 - i) % 2 : Nat) : Int)) ∧ w' = w := by
  go_enter Try.func67, Try.ntmps67
  go_wp2
  go_loopw [5, 6] (fun x j wr => ∃ k : Nat, i ≤ k ∧ k ≤ 31 ∧ x = .int .i64 ((a / 2 ^ (31 - k) : Nat) : Int) ∧ j = .int .i64 (k : Int) ∧ wr = w) (fun _ j _ => (intOf j).toNat)
  case atStart => exact ⟨31, by omega, by omega, by simp, rfl, rfl⟩
  case round =>
    obtain ⟨k, h1, h2, rfl, rfl, rfl⟩ := hrel
    by_cases hlt : i < k
    · have l1 : (i : Int) < (k : Int) := by omega
      have hq : ((a / 2 ^ (31 - k) : Nat) : Int).tdiv 2 = ((a / 2 ^ (31 - (k - 1)) : Nat) : Int) := by
        rw [show 31 - (k - 1) = (31 - k) + 1 by omega, Nat.pow_succ, ← Nat.div_div_eq_div_mul]
        rfl
      have HQ := hidp hq
      have hb : a / 2 ^ (31 - k) < 4294967296 := Nat.lt_of_le_of_lt (Nat.div_le_self _ _) ha
      generalize a / 2 ^ (31 - k) = y at *
      go_wp2
      go_roundw
      case rel =>
        refine ⟨k - 1, by omega, by omega, ?_, by go_num, trivial⟩
        have hb2 := Nat.lt_of_le_of_lt (Nat.div_le_self a (2 ^ (31 - (k - 1)))) ha
        have e : ((a : Int) / 2 ^ (31 - (k - 1))) = ((a / 2 ^ (31 - (k - 1)) : Nat) : Int) := by push_cast; rfl
        rw [e]
        clear HQ e
        generalize a / 2 ^ (31 - (k - 1)) = z at *
        rw [Go.IntWalk.wrap64_in _ ⟨by omega, by omega⟩]
      case measure => simp [intOf]; omega
    · have l1 : ¬ (i : Int) < (k : Int) := by omega
      obtain rfl : k = i := by omega
      go_wp2
      go_ret
      exact ⟨rfl, rfl⟩
/-- the first i bits of a, where those behind the first k are 0 -/
def nX (a k i : Nat) : Nat := a / 2 ^ (32 - min i k) * 2 ^ (i - min i k)
theorem nX_zero (a k : Nat) (ha : a < 4294967296) : nX a k 0 = 0 := by simp [nX]; omega
theorem nX_in (a k i : Nat) (hi : i < 32) (hk : i < k) : nX a k (i + 1) = 2 * nX a k i + a / 2 ^ (31 - i) % 2 := by
  unfold nX
  rw [show min (i + 1) k = i + 1 by omega, show min i k = i by omega, show i + 1 - (i + 1) = 0 by omega, show i - i = 0 by omega, show 32 - (i + 1) = 31 - i by omega, show 32 - i = (31 - i) + 1 by omega, Nat.pow_succ, ← Nat.div_div_eq_div_mul]
  omega
theorem nX_out (a k i : Nat) (hk : k ≤ i) : nX a k (i + 1) = 2 * nX a k i := by
  unfold nX
  rw [show min (i + 1) k = k by omega, show min i k = k by omega, show i + 1 - k = (i - k) + 1 by omega, Nat.pow_succ]
  rw [← Nat.mul_assoc, Nat.mul_comm]
theorem nX_lt (a k i : Nat) (ha : a < 4294967296) (hi : i ≤ 32) : nX a k i < 2 ^ i := by
  unfold nX
  have h1 : a / 2 ^ (32 - min i k) < 2 ^ (min i k) := by
    rw [Nat.div_lt_iff_lt_mul (Nat.two_pow_pos _), ← Nat.pow_add, show min i k + (32 - min i k) = 32 by omega]
    exact ha
  have h2 : 2 ^ (min i k) * 2 ^ (i - min i k) = 2 ^ i := by rw [← Nat.pow_add, show min i k + (i - min i k) = i by omega]
  rw [← h2]
  exact Nat.mul_lt_mul_of_lt_of_le h1 (Nat.le_refl _) (Nat.two_pow_pos _)
theorem nX_le (a k i : Nat) (ha : a < 4294967296) (hi : i ≤ 32) : nX a k i < 4294967296 := Nat.lt_of_lt_of_le (nX_lt a k i ha hi) (Nat.pow_le_pow_right (by decide) hi)
def clampN (n : Int) : Nat := (if 32 < n then 32 else n).toNat
def norm2 (a : Nat) (n : Int) : Pf := ⟨nX a (clampN n) 32, (clampN n : Nat)⟩
theorem norm2_right (p : Pf) (hp : p.ok) : decide (norm2 p.a p.l = p) = rightF p := by
  unfold rightF
  congr 1
  unfold Pf.ok at hp
  have hlen : ((clampN p.l : Nat) : Int) = p.l ↔ 0 ≤ p.l ∧ p.l ≤ 32 := by unfold clampN; split <;> omega
  have : norm2 p.a p.l = p ↔ nX p.a (clampN p.l) 32 = p.a ∧ ((clampN p.l : Nat) : Int) = p.l := by
    unfold norm2
    cases p
    simp
  rw [this, hlen]
  simp only [eq_iff_iff]
  constructor
  · rintro ⟨h1, h2, h3⟩
    refine ⟨h2, h3, ?_⟩
    have hc : clampN p.l = p.l.toNat := by unfold clampN; rw [if_neg (by omega)]
    rw [hc] at h1
    unfold nX at h1
    rw [show min 32 p.l.toNat = p.l.toNat by omega] at h1
    rw [← h1]
    exact Nat.mul_mod_left _ _
  · rintro ⟨h2, h3, h1⟩
    refine ⟨?_, h2, h3⟩
    have hc : clampN p.l = p.l.toNat := by unfold clampN; rw [if_neg (by omega)]
    rw [hc]
    unfold nX
    rw [show min 32 p.l.toNat = p.l.toNat by omega]
    exact Nat.div_mul_cancel (Nat.dvd_of_mod_eq_zero h1)
theorem two_one (x y : Int) : (#[Value.int .u32 x, .int .i64 y] : Array Value).all (·.oneCell') = true := by simp [Value.oneCell']
theorem info44two {x y : Int} : (Try.prog.info? 44).map (·.size) = some (#[Value.int .u32 x, .int .i64 y] : Array Value).size := Try.info44
set_option maxHeartbeats 2000000 in
theorem norm2_any (a : Nat) (ha : a < 4294967296) (n : Int) (w : World) : Calls Try.prog 50 #[.int .u32 (a : Int), .int .i64 n] w fun e w' => e = .returned (norm2 a n).val ∧ Below w.heap.size w w' := by
  obtain ⟨k, hk⟩ : ∃ k, clampN n = k := ⟨_, rfl⟩
  have hk32 : k ≤ 32 := by rw [← hk]; unfold clampN; split <;> omega
  have HV := hidp (show (norm2 a n).val = .agg #[.int .u32 ((nX a k 32 : Nat) : Int), .int .i64 (k : Int)] by unfold norm2; rw [hk]; rfl)
  have HB := hidp ((Below.refl w.heap.size w).alloc (Nat.le_refl _) (.cells #[.int .u32 0, .int .i64 0] 44))
  have HZ := hidp (heap_alloc_new w (.cells #[.int .u32 0, .int .i64 0] 44))
  have HA := hidp ha
  have hk0 : (n < 0 → k = 0) ∧ (32 < n → k = 32) ∧ (0 ≤ n → n ≤ 32 → n = (k : Int)) := by rw [← hk]; unfold clampN; split <;> omega
  clear hk ha
  go_enter Try.func50, Try.ntmps50
  go_upto_region 1 with (fail)
  change Code.wp Try.prog _ _ _ (w.alloc (.cells #[.int .u32 0, .int .i64 0] 44))
  generalize w.alloc (.cells #[.int .u32 0, .int .i64 0] 44) = w0 at *
  by_cases h1 : n < 0
  · obtain rfl := hk0.1 h1
    clear hk0
    go_wp2
    go_loopw [6, 7] (fun x i wr => ∃ j : Nat, j ≤ 32 ∧ x = .int .i64 ((nX a 0 j : Nat) : Int) ∧ i = .int .i64 (j : Int) ∧ wr = w0) (fun _ i _ => 32 - (intOf i).toNat)
    case atStart => exact ⟨0, by omega, by rw [nX_zero a 0 HA.out]; rfl, rfl, rfl⟩
    case round =>
      obtain ⟨j, hj, rfl, rfl, rfl⟩ := hrel
      by_cases hlt : j < 32
      · have l1 : (j : Int) < 32 := by omega
        have hx := nX_lt a 0 j HA.out hj
        have hx2 : 2 ^ j ≤ 2147483648 := Nat.pow_le_pow_right (by decide) (show j ≤ 31 by omega)
        have hx3 : nX a 0 j < 2147483648 := Nat.lt_of_lt_of_le hx hx2
        clear hx hx2
        have HN := hidp (nX_out a 0 j (by omega))
        have l2 : ¬ (j : Int) < 0 := by omega
        generalize nX a 0 j = x at *
        go_wp2
        go_roundw
        case rel => exact ⟨j + 1, by omega, by rw [HN.out]; go_num, by go_num, trivial⟩
        case measure => simp [intOf]; omega
      · have l1 : ¬ (j : Int) < 32 := by omega
        obtain rfl : j = 32 := by omega
        have hx := nX_le a 0 32 HA.out (Nat.le_refl _)
        have hm : ((nX a 0 32 : Nat) : Int) % 4294967296 = ((nX a 0 32 : Nat) : Int) := by omega
        generalize nX a 0 32 = x at *
        go_wp2_with (refine wpList_store_row rfl 44 (.tmp 4) (.tmp 30) rfl w.heap.size #[.int .u32 (x : Int), .int .i64 0] rfl rfl 44 _ HZ.out info44two rfl (two_one _ _) ?_)
        refine bodyPost_ret (results_pf rfl _ _ w.heap.size _ rfl rfl (setRow_heap _ _ _ _ _ _ HZ.out)) rfl ?_
        exact ⟨by rw [HV.out]; rfl, below_setRow HB.out _ (Nat.le_refl _) _⟩
  · by_cases h2 : 32 < n
    · obtain rfl := hk0.2.1 h2
      clear hk0
      go_wp2
      go_loopw [6, 7] (fun x i wr => ∃ j : Nat, j ≤ 32 ∧ x = .int .i64 ((nX a 32 j : Nat) : Int) ∧ i = .int .i64 (j : Int) ∧ wr = w0) (fun _ i _ => 32 - (intOf i).toNat)
      case atStart => exact ⟨0, by omega, by rw [nX_zero a 32 HA.out]; rfl, rfl, rfl⟩
      case round =>
        obtain ⟨j, hj, rfl, rfl, rfl⟩ := hrel
        by_cases hlt : j < 32
        · have l1 : (j : Int) < 32 := by omega
          have hx := nX_lt a 32 j HA.out hj
          have hx2 : 2 ^ j ≤ 2147483648 := Nat.pow_le_pow_right (by decide) (show j ≤ 31 by omega)
          have hx3 : nX a 32 j < 2147483648 := Nat.lt_of_lt_of_le hx hx2
          clear hx hx2
          have HN := hidp (nX_in a 32 j hlt hlt)
          have l2 : (j : Int) < 32 := by omega
          generalize nX a 32 j = x at *
          have hb : a / 2 ^ (31 - j) % 2 < 2 := Nat.mod_lt _ (by decide)
          have HBT := hidp (bit2_any a j HA.out hlt wr)
          generalize a / 2 ^ (31 - j) % 2 = y at *
          go_wp2_with (go_at_call 67; go_must (
            refine HBT.out.mono ?_
            rintro e w1 ⟨rfl, h1⟩
            rw [h1]
            clear h1))
          go_roundw
          case rel => exact ⟨j + 1, by omega, by rw [HN.out]; go_num, by go_num, trivial⟩
          case measure => simp [intOf]; omega
        · have l1 : ¬ (j : Int) < 32 := by omega
          obtain rfl : j = 32 := by omega
          have hx := nX_le a 32 32 HA.out (Nat.le_refl _)
          have hm : ((nX a 32 32 : Nat) : Int) % 4294967296 = ((nX a 32 32 : Nat) : Int) := by omega
          generalize nX a 32 32 = x at *
          go_wp2_with (refine wpList_store_row rfl 44 (.tmp 4) (.tmp 30) rfl w.heap.size #[.int .u32 (x : Int), .int .i64 32] rfl rfl 44 _ HZ.out info44two rfl (two_one _ _) ?_)
          refine bodyPost_ret (results_pf rfl _ _ w.heap.size _ rfl rfl (setRow_heap _ _ _ _ _ _ HZ.out)) rfl ?_
          exact ⟨by rw [HV.out]; rfl, below_setRow HB.out _ (Nat.le_refl _) _⟩
    · obtain rfl := hk0.2.2 (by omega) (by omega)
      clear hk0
      go_wp2
      go_loopw [6, 7] (fun x i wr => ∃ j : Nat, j ≤ 32 ∧ x = .int .i64 ((nX a k j : Nat) : Int) ∧ i = .int .i64 (j : Int) ∧ wr = w0) (fun _ i _ => 32 - (intOf i).toNat)
      case atStart => exact ⟨0, by omega, by rw [nX_zero a k HA.out]; rfl, rfl, rfl⟩
      case round =>
        obtain ⟨j, hj, rfl, rfl, rfl⟩ := hrel
        by_cases hlt : j < 32
        · have l1 : (j : Int) < 32 := by omega
          have hx := nX_lt a k j HA.out hj
          have hx2 : 2 ^ j ≤ 2147483648 := Nat.pow_le_pow_right (by decide) (show j ≤ 31 by omega)
          have hx3 : nX a k j < 2147483648 := Nat.lt_of_lt_of_le hx hx2
          clear hx hx2
          by_cases hk : j < k
          · have HN := hidp (nX_in a k j hlt hk)
            have l2 : (j : Int) < (k : Int) := by omega
            generalize nX a k j = x at *
            have hb : a / 2 ^ (31 - j) % 2 < 2 := Nat.mod_lt _ (by decide)
            have HBT := hidp (bit2_any a j HA.out hlt wr)
            generalize a / 2 ^ (31 - j) % 2 = y at *
            go_wp2_with (go_at_call 67; go_must (
              refine HBT.out.mono ?_
              rintro e w1 ⟨rfl, h1⟩
              rw [h1]
              clear h1))
            go_roundw
            case rel => exact ⟨j + 1, by omega, by rw [HN.out]; go_num, by go_num, trivial⟩
            case measure => simp [intOf]; omega
          · have HN := hidp (nX_out a k j (by omega))
            have l2 : ¬ (j : Int) < (k : Int) := by omega
            generalize nX a k j = x at *
            go_wp2
            go_roundw
            case rel => exact ⟨j + 1, by omega, by rw [HN.out]; go_num, by go_num, trivial⟩
            case measure => simp [intOf]; omega
        · have l1 : ¬ (j : Int) < 32 := by omega
          obtain rfl : j = 32 := by omega
          have hx := nX_le a k 32 HA.out (Nat.le_refl _)
          have hm : ((nX a k 32 : Nat) : Int) % 4294967296 = ((nX a k 32 : Nat) : Int) := by omega
          generalize nX a k 32 = x at *
          go_wp2_with (refine wpList_store_row rfl 44 (.tmp 4) (.tmp 30) rfl w.heap.size #[.int .u32 (x : Int), .int .i64 (k : Int)] rfl rfl 44 _ HZ.out info44two rfl (two_one _ _) ?_)
          refine bodyPost_ret (results_pf rfl _ _ w.heap.size _ rfl rfl (setRow_heap _ _ _ _ _ _ HZ.out)) rfl ?_
          exact ⟨by rw [HV.out], below_setRow HB.out _ (Nat.le_refl _) _⟩
end Go.Proofs.Ytnenpfalhbbadaa
