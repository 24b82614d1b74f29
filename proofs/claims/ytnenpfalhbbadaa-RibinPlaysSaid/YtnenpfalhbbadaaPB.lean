/- Prefixes: their functions in the program. -/
import Derived.Test.YtnenpfalhbbadaaRows
import Derived.Test.YtnenpfalhbbadaaProg
import Derived.Test.YtnenpfalhbbadaaBase
import Derived.Handy
import Derived.BigQuiet
import Derived.Laws.BitsAllLaws
import Derived.Test.YtnenpfalhbbadaaFlow
import Derived.Deep.Cut
namespace Go.Proofs.Ytnenpfalhbbadaa
open Go.RowKit

/-- the number whose first n bits are 1 -/
def maskN (n : Int) : Nat := if n ≤ 0 then 0 else if 32 ≤ n then 4294967295 else 4294967296 - 2 ^ (32 - n.toNat)
theorem mask_mid (n : Int) (h1 : 0 < n) (h2 : n < 32) : (4294967295 * 2 ^ (32 - n).toNat % 4294967296 : Int) = ((maskN n : Nat) : Int) := by
  obtain ⟨m, rfl⟩ := Int.eq_ofNat_of_zero_le (Int.le_of_lt h1)
  have : ∀ m : Nat, m < 32 → 0 < m → (4294967295 * 2 ^ (32 - (m : Int)).toNat % 4294967296 : Int) = ((maskN (m : Int) : Nat) : Int) := by decide +kernel
  exact this m (by omega) (by omega)
theorem mask_any (n : Int) (w : World) : Calls Try.prog 57 #[.int .i64 n] w fun e w' => e = .returned (.int .u32 (maskN n : Nat)) ∧ w' = w := by
  by_cases h1 : n ≤ 0
  · have hm : ((maskN n : Nat) : Int) = 0 := by unfold maskN; rw [if_pos h1]; rfl
    have HM := hidp hm
    clear hm
    go_enter Try.func57, Try.ntmps57
    go_wp2
    go_ret
    rw [HM.out]
    exact ⟨rfl, rfl⟩
  · by_cases h2 : 32 ≤ n
    · have hm : ((maskN n : Nat) : Int) = 4294967295 := by unfold maskN; rw [if_neg h1, if_pos h2]; rfl
      have HM := hidp hm
      clear hm
      go_enter Try.func57, Try.ntmps57
      go_wp2
      go_ret
      rw [HM.out]
      exact ⟨rfl, rfl⟩
    · have hm : (4294967295 * 2 ^ (32 - n).toNat % 4294967296 : Int) = ((maskN n : Nat) : Int) := mask_mid n (by omega) (by omega)
      have HM := hidp hm
      clear hm
      go_enter Try.func57, Try.ntmps57
      go_wp2
      go_ret
      rw [HM.out]
      exact ⟨rfl, rfl⟩

/-- a prefix -/
structure Pf where
  a : Nat
  l : Int
def Pf.val (p : Pf) : Value := .agg #[.int .u32 (p.a : Int), .int .i64 p.l]
def Pf.ok (p : Pf) : Prop := p.a < 4294967296
def rightF (p : Pf) : Bool := decide (0 ≤ p.l ∧ p.l ≤ 32 ∧ p.a % 2 ^ (32 - p.l.toNat) = 0)
theorem mask_le (n : Int) : maskN n < 4294967296 := by 
  unfold maskN
  split
  · decide
  · split
    · decide
    · have := Nat.pow_pos (n := 32 - n.toNat) (show 0 < 2 by decide); omega
theorem mask_not (n : Int) (h1 : 0 ≤ n) (h2 : n ≤ 32) : 4294967295 - maskN n = 2 ^ (32 - n.toNat) - 1 := by
  obtain ⟨m, rfl⟩ := Int.eq_ofNat_of_zero_le h1
  have : ∀ m : Nat, m < 33 → 4294967295 - maskN (m : Int) = 2 ^ (32 - (m : Int).toNat) - 1 := by decide +kernel
  exact this m (by omega)
theorem andNot_mask (p : Pf) (hp : p.ok) (h1 : 0 ≤ p.l) (h2 : p.l ≤ 32) : bits .andNot .u32 (p.a : Int) (maskN p.l : Nat) = ((p.a % 2 ^ (32 - p.l.toNat) : Nat) : Int) := by
  rw [u32_andNot_nat _ _ hp (mask_le _), mask_not _ h1 h2, Nat.and_two_pow_sub_one_eq_mod]
set_option maxHeartbeats 1000000 in
theorem right_any (p : Pf) (hp : p.ok) (w : World) : Calls Try.prog 42 #[p.val] w fun e w' => e = .returned (.bool (rightF p)) ∧ Below w.heap.size w w' := by
  have hB := (Below.refl w.heap.size w).alloc (Nat.le_refl _) (.cells #[.int .u32 (p.a : Int), .int .i64 p.l] 44)
  have k0 := heap_alloc_new w (.cells #[.int .u32 (p.a : Int), .int .i64 p.l] 44)
  have c0 := cellOf k0 0 (v := .int .u32 (p.a : Int)) rfl
  have c1 := cellOf k0 1 (v := .int .i64 p.l) rfl
  have HB := hidp hB
  clear hB k0
  unfold Pf.val
  by_cases h1 : 0 ≤ p.l
  · by_cases h2 : p.l ≤ 32
    · have hb := andNot_mask p hp h1 h2
      have hr : rightF p = (((p.a % 2 ^ (32 - p.l.toNat) : Nat) : Int) == 0) := by
        unfold rightF
        rw [Bool.eq_iff_iff, decide_eq_true_iff, beq_iff_eq]
        omega
      have HR := hidp hr
      generalize p.a % 2 ^ (32 - p.l.toNat) = md at *
      clear hr
      have D1 := hidp (decide_eq_true h1)
      have D2 := hidp (decide_eq_true h2)
      have HBB := hidp hb
      clear hb
      go_enter Try.func42, Try.ntmps42
      go_upto_region 1 with (fail)
      change Code.wp Try.prog _ _ _ (w.alloc (.cells #[.int .u32 (p.a : Int), .int .i64 p.l] 44))
      generalize w.alloc (.cells #[.int .u32 (p.a : Int), .int .i64 p.l] 44) = w0 at *
      have C0 := hidp (show ∀ W, Below w0.heap.size w0 W → W.cell? ⟨w.heap.size, 0, none⟩ = some (.int .u32 (p.a : Int)) from fun W hW => below_cell hW (Nat.le_refl _) _ _ c0)
      have C1 := hidp (show ∀ W, Below w0.heap.size w0 W → W.cell? ⟨w.heap.size, 1, none⟩ = some (.int .i64 p.l) from fun W hW => below_cell hW (Nat.le_refl _) _ _ c1)
      have hd0 : Below w0.heap.size w0 w0.drew := (Below.refl _ _).drew
      clear c0 c1 h1 h2
      refine wp_region_flow2 (fun iqv => ([(.pointer (some ⟨w.heap.size, 1, none⟩) : Value), (.int .i64 p.l : Value), (.bool true : Value), (.bool true : Value), (.pointer (some ⟨w.heap.size, 1, none⟩) : Value), (.int .i64 p.l : Value), (.bool true : Value), (.bool true : Value), (.bool true : Value), (.pointer (some ⟨w.heap.size, 0, none⟩) : Value), (.int .u32 (p.a : Int) : Value), (.pointer (some ⟨w.heap.size, 1, none⟩) : Value), (.int .i64 p.l : Value), (.int .u32 (maskN p.l : Nat) : Value), (.int .u32 (md : Int) : Value), (.bool ((md : Int) == 0) : Value), (.bool ((md : Int) == 0) : Value), (.bool ((md : Int) == 0) : Value)] : List Value).getD iqv undef) [(some 3, .pointer (some ⟨w.heap.size, 1, none⟩)), (some 4, .int .i64 p.l), (some 5, .bool true), (some 6, .bool true), (some 7, .pointer (some ⟨w.heap.size, 1, none⟩)), (some 8, .int .i64 p.l), (some 9, .bool true), (some 10, .bool true), (some 11, .bool true), (some 12, .pointer (some ⟨w.heap.size, 0, none⟩)), (some 13, .int .u32 (p.a : Int)), (some 14, .pointer (some ⟨w.heap.size, 1, none⟩)), (some 15, .int .i64 p.l), (some 16, .int .u32 (maskN p.l : Nat)), (some 17, .int .u32 (md : Int)), (some 18, .bool ((md : Int) == 0)), (some 19, .bool ((md : Int) == 0)), (some 2, .bool ((md : Int) == 0))] (fun W : World => Below w0.heap.size w0 W) (by kernel_rfl) (by kernel_rfl) hd0 (fun iq hiq => ?_) (by kernel_rfl) (fun W hSW => ?_)
      · match iq, hiq with
        | 0, _ =>
          intro aq W hSW hf
          have v1 : aq.tmps[1]? = some (.pointer (some ⟨w.heap.size, 0, none⟩)) := (hf.at_base 1 (by kernel_rfl)).trans rfl
          clear hf
          refine wpOp_flow rfl (by rfl) (fun Kq hK => ?_)
          go_simp
          exact hK _ _ ⟨rfl, hSW⟩
        | 1, _ =>
          intro aq W hSW hf
          have v3 : aq.tmps[3]? = some (.pointer (some ⟨w.heap.size, 1, none⟩)) := hf.val 0 3 (by kernel_rfl) rfl
          clear hf
          refine wpOp_flow rfl (by rfl) (fun Kq hK => ?_)
          have ck := C1.out W hSW
          go_simp
          exact hK _ _ ⟨rfl, hSW⟩
        | 2, _ =>
          intro aq W hSW hf
          have v4 : aq.tmps[4]? = some (.int .i64 p.l) := hf.val 1 4 (by kernel_rfl) rfl
          clear hf
          refine wpOp_flow rfl (by rfl) (fun Kq hK => ?_)
          have d1 := D1.out
          go_simp
          exact hK _ _ ⟨rfl, hSW⟩
        | 3, _ =>
          intro aq W hSW hf
          have v5 : aq.tmps[5]? = some (.bool true) := hf.val 2 5 (by kernel_rfl) rfl
          clear hf
          refine wpOp_flow rfl (by rfl) (fun Kq hK => ?_)
          go_simp
          exact hK _ _ ⟨rfl, hSW⟩
        | 4, _ =>
          intro aq W hSW hf
          have v1 : aq.tmps[1]? = some (.pointer (some ⟨w.heap.size, 0, none⟩)) := (hf.at_base 1 (by kernel_rfl)).trans rfl
          have v6 : aq.tmps[6]? = some (.bool true) := hf.val 3 6 (by kernel_rfl) rfl
          clear hf
          refine wpOp_flow rfl (wanted_of rfl rfl v6) (fun Kq hK => ?_)
          go_simp
          exact hK _ _ ⟨rfl, hSW⟩
        | 5, _ =>
          intro aq W hSW hf
          have v6 : aq.tmps[6]? = some (.bool true) := hf.val 3 6 (by kernel_rfl) rfl
          have v7 : aq.tmps[7]? = some (.pointer (some ⟨w.heap.size, 1, none⟩)) := hf.val 4 7 (by kernel_rfl) rfl
          clear hf
          refine wpOp_flow rfl (wanted_of rfl rfl v6) (fun Kq hK => ?_)
          have ck := C1.out W hSW
          go_simp
          exact hK _ _ ⟨rfl, hSW⟩
        | 6, _ =>
          intro aq W hSW hf
          have v6 : aq.tmps[6]? = some (.bool true) := hf.val 3 6 (by kernel_rfl) rfl
          have v8 : aq.tmps[8]? = some (.int .i64 p.l) := hf.val 5 8 (by kernel_rfl) rfl
          clear hf
          refine wpOp_flow rfl (wanted_of rfl rfl v6) (fun Kq hK => ?_)
          have d2 := D2.out
          go_simp
          exact hK _ _ ⟨rfl, hSW⟩
        | 7, _ =>
          intro aq W hSW hf
          have v6 : aq.tmps[6]? = some (.bool true) := hf.val 3 6 (by kernel_rfl) rfl
          have v9 : aq.tmps[9]? = some (.bool true) := hf.val 6 9 (by kernel_rfl) rfl
          clear hf
          refine wpOp_flow rfl (by rfl) (fun Kq hK => ?_)
          go_simp
          exact hK _ _ ⟨rfl, hSW⟩
        | 8, _ =>
          intro aq W hSW hf
          have v10 : aq.tmps[10]? = some (.bool true) := hf.val 7 10 (by kernel_rfl) rfl
          clear hf
          refine wpOp_flow rfl (by rfl) (fun Kq hK => ?_)
          go_simp
          exact hK _ _ ⟨rfl, hSW⟩
        | 9, _ =>
          intro aq W hSW hf
          have v1 : aq.tmps[1]? = some (.pointer (some ⟨w.heap.size, 0, none⟩)) := (hf.at_base 1 (by kernel_rfl)).trans rfl
          have v11 : aq.tmps[11]? = some (.bool true) := hf.val 8 11 (by kernel_rfl) rfl
          clear hf
          refine wpOp_flow rfl (wanted_of rfl rfl v11) (fun Kq hK => ?_)
          go_simp
          exact hK _ _ ⟨rfl, hSW⟩
        | 10, _ =>
          intro aq W hSW hf
          have v11 : aq.tmps[11]? = some (.bool true) := hf.val 8 11 (by kernel_rfl) rfl
          have v12 : aq.tmps[12]? = some (.pointer (some ⟨w.heap.size, 0, none⟩)) := hf.val 9 12 (by kernel_rfl) rfl
          clear hf
          refine wpOp_flow rfl (wanted_of rfl rfl v11) (fun Kq hK => ?_)
          have ck := C0.out W hSW
          go_simp
          exact hK _ _ ⟨rfl, hSW⟩
        | 11, _ =>
          intro aq W hSW hf
          have v1 : aq.tmps[1]? = some (.pointer (some ⟨w.heap.size, 0, none⟩)) := (hf.at_base 1 (by kernel_rfl)).trans rfl
          have v11 : aq.tmps[11]? = some (.bool true) := hf.val 8 11 (by kernel_rfl) rfl
          clear hf
          refine wpOp_flow rfl (wanted_of rfl rfl v11) (fun Kq hK => ?_)
          go_simp
          exact hK _ _ ⟨rfl, hSW⟩
        | 12, _ =>
          intro aq W hSW hf
          have v11 : aq.tmps[11]? = some (.bool true) := hf.val 8 11 (by kernel_rfl) rfl
          have v14 : aq.tmps[14]? = some (.pointer (some ⟨w.heap.size, 1, none⟩)) := hf.val 11 14 (by kernel_rfl) rfl
          clear hf
          refine wpOp_flow rfl (wanted_of rfl rfl v11) (fun Kq hK => ?_)
          have ck := C1.out W hSW
          go_simp
          exact hK _ _ ⟨rfl, hSW⟩
        | 13, _ =>
          intro aq W hSW hf
          have v11 : aq.tmps[11]? = some (.bool true) := hf.val 8 11 (by kernel_rfl) rfl
          have v15 : aq.tmps[15]? = some (.int .i64 p.l) := hf.val 12 15 (by kernel_rfl) rfl
          clear hf
          refine wpOp_flow rfl (wanted_of rfl rfl v11) (fun Kq hK => ?_)
          go_simp
          refine (mask_any _ _).mono ?_
          rintro e w19 ⟨rfl, rfl⟩
          exact hK _ _ ⟨rfl, hSW⟩
        | 14, _ =>
          intro aq W hSW hf
          have v11 : aq.tmps[11]? = some (.bool true) := hf.val 8 11 (by kernel_rfl) rfl
          have v13 : aq.tmps[13]? = some (.int .u32 (p.a : Int)) := hf.val 10 13 (by kernel_rfl) rfl
          have v16 : aq.tmps[16]? = some (.int .u32 (maskN p.l : Nat)) := hf.val 13 16 (by kernel_rfl) rfl
          clear hf
          refine wpOp_flow rfl (wanted_of rfl rfl v11) (fun Kq hK => ?_)
          have hb := HBB.out
          go_simp
          exact hK _ _ ⟨rfl, hSW⟩
        | 15, _ =>
          intro aq W hSW hf
          have v11 : aq.tmps[11]? = some (.bool true) := hf.val 8 11 (by kernel_rfl) rfl
          have v17 : aq.tmps[17]? = some (.int .u32 (md : Int)) := hf.val 14 17 (by kernel_rfl) rfl
          clear hf
          refine wpOp_flow rfl (wanted_of rfl rfl v11) (fun Kq hK => ?_)
          go_simp
          exact hK _ _ ⟨rfl, hSW⟩
        | 16, _ =>
          intro aq W hSW hf
          have v11 : aq.tmps[11]? = some (.bool true) := hf.val 8 11 (by kernel_rfl) rfl
          have v18 : aq.tmps[18]? = some (.bool ((md : Int) == 0)) := hf.val 15 18 (by kernel_rfl) rfl
          clear hf
          refine wpOp_flow rfl (by rfl) (fun Kq hK => ?_)
          go_simp
          exact hK _ _ ⟨rfl, hSW⟩
        | 17, _ =>
          intro aq W hSW hf
          have v19 : aq.tmps[19]? = some (.bool ((md : Int) == 0)) := hf.val 16 19 (by kernel_rfl) rfl
          clear hf
          refine wpOp_flow rfl (by rfl) (fun Kq hK => ?_)
          go_simp
          exact hK _ _ ⟨rfl, hSW⟩
        | kq + 18, hk => exact absurd hk (by first | omega | (intro h; simp at h; omega))
      · simp only [puts, Act.put, List.setIfInBounds_toArray, List.set_cons_zero, List.set_cons_succ]
        have hb := HB.out.trans (hSW.mono HB.out.size)
        clear hSW
        go_wp2
        go_ret
        rw [HR.out]
        exact ⟨rfl, hb⟩
    · have hr : rightF p = false := by unfold rightF; simp; omega
      have d1 : decide (0 ≤ p.l) = true := decide_eq_true h1
      have d2 : decide (p.l ≤ 32) = false := decide_eq_false h2
      go_enter Try.func42, Try.ntmps42
      go_upto_region 1 with (fail)
      change Code.wp Try.prog _ _ _ (w.alloc (.cells #[.int .u32 (p.a : Int), .int .i64 p.l] 44))
      generalize w.alloc (.cells #[.int .u32 (p.a : Int), .int .i64 p.l] 44) = w0 at *
      go_quiet (fail)
      go_wp2
      go_ret
      exact ⟨rfl, below_drewN HB.out _⟩
  · have hr : rightF p = false := by unfold rightF; simp; omega
    have d1 : decide (0 ≤ p.l) = false := decide_eq_false h1
    go_enter Try.func42, Try.ntmps42
    go_upto_region 1 with (fail)
    change Code.wp Try.prog _ _ _ (w.alloc (.cells #[.int .u32 (p.a : Int), .int .i64 p.l] 44))
    generalize w.alloc (.cells #[.int .u32 (p.a : Int), .int .i64 p.l] 44) = w0 at *
    go_quiet (fail)
    go_wp2
    go_ret
    exact ⟨rfl, below_drewN HB.out _⟩
end Go.Proofs.Ytnenpfalhbbadaa
