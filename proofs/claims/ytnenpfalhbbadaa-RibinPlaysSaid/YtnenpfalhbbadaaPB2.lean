/- Prefixes: Holds, Covers, Bit, side, Compare in the program. -/
import Derived.Test.YtnenpfalhbbadaaPB
namespace Go.Proofs.Ytnenpfalhbbadaa
open Go.RowKit

section
variable {P : Program} {ops : Array Oper} {Q : Exit → Act → World → Prop}
theorem wpOp_skip {i : Nat} {o : Oper} {K : Act → World → Prop} {a : Act} {w : World} (ho : ops[i]? = some o) (hw : Region.wanted o (yielded ops a.tmps) = false)
    (h : K (a.put o.dst undef) w) : wpOp P ops Q i K a w :=
  wpOp_step ho fun K' hK => by rw [if_neg (by rw [hw]; simp)]; exact hK _ _ h
theorem unwanted_of {o : Oper} {g : Nat} {b c : Bool} {t : Tmp} {tmps : Array Value} (hg : o.guard = some (g, b)) (hd : dstOf ops g = some t) (hv : tmps[t]? = some (.bool c)) (hc : (c == b) = false := by rfl) : Region.wanted o (yielded ops tmps) = false := by
  have hy : yielded ops tmps g = some c := by
    unfold yielded
    unfold dstOf at hd
    rw [hd]
    simp [hv]
  simp [Region.wanted, hg, hy]
  simpa using hc
end
def holdsF (p : Pf) (x : Nat) : Bool := rightF p && decide (p.a / 2 ^ (32 - p.l.toNat) = x / 2 ^ (32 - p.l.toNat))
theorem mask_shift (n : Int) (h1 : 0 ≤ n) (h2 : n ≤ 32) : maskN n >>> (32 - n.toNat) = 2 ^ n.toNat - 1 ∧ maskN n % 2 ^ (32 - n.toNat) = 0 := by
  obtain ⟨m, rfl⟩ := Int.eq_ofNat_of_zero_le h1
  have : ∀ m : Nat, m < 33 → maskN (m : Int) >>> (32 - (m : Int).toNat) = 2 ^ (m : Int).toNat - 1 ∧ maskN (m : Int) % 2 ^ (32 - (m : Int).toNat) = 0 := by decide +kernel
  exact this m (by omega)
theorem xor_mask (a x : Nat) (ha : a < 4294967296) (hx : x < 4294967296) (n : Int) (h1 : 0 ≤ n) (h2 : n ≤ 32) : (a ^^^ x) &&& maskN n = 0 ↔ a / 2 ^ (32 - n.toNat) = x / 2 ^ (32 - n.toNat) := by
  obtain ⟨m1, m2⟩ := mask_shift n h1 h2
  have hy : a ^^^ x < 2 ^ 32 := Nat.xor_lt_two_pow (by omega) (by omega)
  rw [← Nat.shiftRight_eq_div_pow, ← Nat.shiftRight_eq_div_pow]
  have e1 : ((a ^^^ x) &&& maskN n) >>> (32 - n.toNat) = (a >>> (32 - n.toNat)) ^^^ (x >>> (32 - n.toNat)) := by
    rw [Nat.shiftRight_and_distrib, m1, Nat.and_two_pow_sub_one_eq_mod, Nat.mod_eq_of_lt, Nat.shiftRight_xor_distrib]
    rw [Nat.shiftRight_eq_div_pow, Nat.div_lt_iff_lt_mul (Nat.pow_pos (by decide)), ← Nat.pow_add, show n.toNat + (32 - n.toNat) = 32 by omega]
    exact hy
  have e2 : ((a ^^^ x) &&& maskN n) % 2 ^ (32 - n.toNat) = 0 := by
    rw [Nat.and_mod_two_pow, m2, Nat.and_zero]
  constructor
  · intro h
    rw [h, Nat.zero_shiftRight] at e1
    have e3 := congrArg (· ^^^ (x >>> (32 - n.toNat))) e1
    simp only [Nat.xor_assoc, Nat.xor_self, Nat.xor_zero, Nat.zero_xor] at e3
    exact e3.symm
  · intro h
    rw [h, Nat.xor_self, Nat.shiftRight_eq_div_pow] at e1
    have := Nat.div_add_mod ((a ^^^ x) &&& maskN n) (2 ^ (32 - n.toNat))
    rw [e1, e2] at this
    omega
theorem right_len {p : Pf} (h : rightF p = true) : 0 ≤ p.l ∧ p.l ≤ 32 := by
  unfold rightF at h
  have := of_decide_eq_true h
  exact ⟨this.1, this.2.1⟩
set_option maxHeartbeats 1000000 in
theorem holds_any (p : Pf) (hp : p.ok) (x : Nat) (hx : x < 4294967296) (w : World) : Calls Try.prog 82 #[p.val, .int .u32 (x : Int)] w fun e w' => e = .returned (.bool (holdsF p x)) ∧ Below w.heap.size w w' := by
  have hB := (Below.refl w.heap.size w).alloc (Nat.le_refl _) (.cells #[.int .u32 (p.a : Int), .int .i64 p.l] 44)
  have k0 := heap_alloc_new w (.cells #[.int .u32 (p.a : Int), .int .i64 p.l] 44)
  have c0 := cellOf k0 0 (v := .int .u32 (p.a : Int)) rfl
  have c1 := cellOf k0 1 (v := .int .i64 p.l) rfl
  have HB := hidp hB
  have HX1 := hidp (u32_xor_nat p.a x hp hx)
  have HX2 := hidp (u32_and_nat (p.a ^^^ x) (maskN p.l) (Nat.xor_lt_two_pow (n := 32) hp hx) (mask_le _))
  clear hB k0
  have hpv : p.val = .agg #[.int .u32 (p.a : Int), .int .i64 p.l] := rfl
  rw [hpv]
  cases hr : rightF p with
  | true =>
    obtain ⟨hl1, hl2⟩ := right_len hr
    have hh : holdsF p x = ((((p.a ^^^ x) &&& maskN p.l : Nat) : Int) == 0) := by
      unfold holdsF
      have hm := xor_mask p.a x hp hx p.l hl1 hl2
      rw [hr, Bool.true_and, Bool.eq_iff_iff, decide_eq_true_iff, beq_iff_eq, ← hm]
      omega
    have HH := hidp hh
    have HRT := hidp hr
    clear hh hr hl1 hl2
    go_enter Try.func82, Try.ntmps82
    go_upto_region 1 with (fail)
    change Code.wp Try.prog _ _ _ (w.alloc (.cells #[.int .u32 (p.a : Int), .int .i64 p.l] 44))
    generalize w.alloc (.cells #[.int .u32 (p.a : Int), .int .i64 p.l] 44) = w0 at *
    have C0 := hidp (show ∀ W, Below w0.heap.size w0 W → W.cell? ⟨w.heap.size, 0, none⟩ = some (.int .u32 (p.a : Int)) from fun W hW => below_cell hW (Nat.le_refl _) _ _ c0)
    have C1 := hidp (show ∀ W, Below w0.heap.size w0 W → W.cell? ⟨w.heap.size, 1, none⟩ = some (.int .i64 p.l) from fun W hW => below_cell hW (Nat.le_refl _) _ _ c1)
    have hd0 : Below w0.heap.size w0 w0.drew := (Below.refl _ _).drew
    clear c0 c1
    refine wp_region_flow2 (fun iqv => ([(p.val : Value), (.bool true : Value), (.bool true : Value), (.pointer (some ⟨w.heap.size, 0, none⟩) : Value), (.int .u32 (p.a : Int) : Value), (.int .u32 (x : Int) : Value), (.int .u32 ((p.a ^^^ x : Nat) : Int) : Value), (.pointer (some ⟨w.heap.size, 1, none⟩) : Value), (.int .i64 p.l : Value), (.int .u32 (maskN p.l : Nat) : Value), (.int .u32 (((p.a ^^^ x) &&& maskN p.l : Nat) : Int) : Value), (.bool ((((p.a ^^^ x) &&& maskN p.l : Nat) : Int) == 0) : Value), (.bool ((((p.a ^^^ x) &&& maskN p.l : Nat) : Int) == 0) : Value), (.bool ((((p.a ^^^ x) &&& maskN p.l : Nat) : Int) == 0) : Value)] : List Value).getD iqv undef) [(some 5, p.val), (some 6, .bool true), (some 7, .bool true), (some 8, .pointer (some ⟨w.heap.size, 0, none⟩)), (some 9, .int .u32 (p.a : Int)), (some 10, .int .u32 (x : Int)), (some 11, .int .u32 ((p.a ^^^ x : Nat) : Int)), (some 12, .pointer (some ⟨w.heap.size, 1, none⟩)), (some 13, .int .i64 p.l), (some 14, .int .u32 (maskN p.l : Nat)), (some 15, .int .u32 (((p.a ^^^ x) &&& maskN p.l : Nat) : Int)), (some 16, .bool ((((p.a ^^^ x) &&& maskN p.l : Nat) : Int) == 0)), (some 17, .bool ((((p.a ^^^ x) &&& maskN p.l : Nat) : Int) == 0)), (some 4, .bool ((((p.a ^^^ x) &&& maskN p.l : Nat) : Int) == 0))] (fun W : World => Below w0.heap.size w0 W) (by kernel_rfl) (by kernel_rfl) hd0 (fun iq hiq => ?_) (by kernel_rfl) (fun W hSW => ?_)
    · match iq, hiq with
      | 0, _ =>
        intro aq W hSW hf
        have v2 : aq.tmps[2]? = some (.pointer (some ⟨w.heap.size, 0, none⟩)) := (hf.at_base 2 (by kernel_rfl)).trans rfl
        clear hf
        refine wpOp_flow rfl (by rfl) (fun Kq hK => ?_)
        have c0 := C0.out W hSW
        have c1 := C1.out W hSW
        go_simp
        exact hK _ _ ⟨rfl, hSW⟩
      | 1, _ =>
        intro aq W hSW hf
        have v5 : aq.tmps[5]? = some (p.val) := hf.val 0 5 (by kernel_rfl) rfl
        clear hf
        refine wpOp_flow rfl (by rfl) (fun Kq hK => ?_)
        go_simp
        refine (right_any p hp _).mono ?_
        rw [HRT.out]
        rintro e w19 ⟨rfl, B19⟩
        exact hK _ _ ⟨rfl, hSW.trans (B19.mono hSW.size)⟩
      | 2, _ =>
        intro aq W hSW hf
        have v6 : aq.tmps[6]? = some (.bool true) := hf.val 1 6 (by kernel_rfl) rfl
        clear hf
        refine wpOp_flow rfl (by rfl) (fun Kq hK => ?_)
        go_simp
        exact hK _ _ ⟨rfl, hSW⟩
      | 3, _ =>
        intro aq W hSW hf
        have v2 : aq.tmps[2]? = some (.pointer (some ⟨w.heap.size, 0, none⟩)) := (hf.at_base 2 (by kernel_rfl)).trans rfl
        have v7 : aq.tmps[7]? = some (.bool true) := hf.val 2 7 (by kernel_rfl) rfl
        clear hf
        refine wpOp_flow rfl (wanted_of rfl rfl v7) (fun Kq hK => ?_)
        go_simp
        exact hK _ _ ⟨rfl, hSW⟩
      | 4, _ =>
        intro aq W hSW hf
        have v7 : aq.tmps[7]? = some (.bool true) := hf.val 2 7 (by kernel_rfl) rfl
        have v8 : aq.tmps[8]? = some (.pointer (some ⟨w.heap.size, 0, none⟩)) := hf.val 3 8 (by kernel_rfl) rfl
        clear hf
        refine wpOp_flow rfl (wanted_of rfl rfl v7) (fun Kq hK => ?_)
        have ck := C0.out W hSW
        go_simp
        exact hK _ _ ⟨rfl, hSW⟩
      | 5, _ =>
        intro aq W hSW hf
        have v1 : aq.tmps[1]? = some (.int .u32 (x : Int)) := (hf.at_base 1 (by kernel_rfl)).trans rfl
        have v7 : aq.tmps[7]? = some (.bool true) := hf.val 2 7 (by kernel_rfl) rfl
        clear hf
        refine wpOp_flow rfl (wanted_of rfl rfl v7) (fun Kq hK => ?_)
        go_simp
        exact hK _ _ ⟨rfl, hSW⟩
      | 6, _ =>
        intro aq W hSW hf
        have v7 : aq.tmps[7]? = some (.bool true) := hf.val 2 7 (by kernel_rfl) rfl
        have v9 : aq.tmps[9]? = some (.int .u32 (p.a : Int)) := hf.val 4 9 (by kernel_rfl) rfl
        have v10 : aq.tmps[10]? = some (.int .u32 (x : Int)) := hf.val 5 10 (by kernel_rfl) rfl
        clear hf
        refine wpOp_flow rfl (wanted_of rfl rfl v7) (fun Kq hK => ?_)
        have hb := HX1.out
        go_simp
        exact hK _ _ ⟨rfl, hSW⟩
      | 7, _ =>
        intro aq W hSW hf
        have v2 : aq.tmps[2]? = some (.pointer (some ⟨w.heap.size, 0, none⟩)) := (hf.at_base 2 (by kernel_rfl)).trans rfl
        have v7 : aq.tmps[7]? = some (.bool true) := hf.val 2 7 (by kernel_rfl) rfl
        clear hf
        refine wpOp_flow rfl (wanted_of rfl rfl v7) (fun Kq hK => ?_)
        go_simp
        exact hK _ _ ⟨rfl, hSW⟩
      | 8, _ =>
        intro aq W hSW hf
        have v7 : aq.tmps[7]? = some (.bool true) := hf.val 2 7 (by kernel_rfl) rfl
        have v12 : aq.tmps[12]? = some (.pointer (some ⟨w.heap.size, 1, none⟩)) := hf.val 7 12 (by kernel_rfl) rfl
        clear hf
        refine wpOp_flow rfl (wanted_of rfl rfl v7) (fun Kq hK => ?_)
        have ck := C1.out W hSW
        go_simp
        exact hK _ _ ⟨rfl, hSW⟩
      | 9, _ =>
        intro aq W hSW hf
        have v7 : aq.tmps[7]? = some (.bool true) := hf.val 2 7 (by kernel_rfl) rfl
        have v13 : aq.tmps[13]? = some (.int .i64 p.l) := hf.val 8 13 (by kernel_rfl) rfl
        clear hf
        refine wpOp_flow rfl (wanted_of rfl rfl v7) (fun Kq hK => ?_)
        go_simp
        refine (mask_any _ _).mono ?_
        rintro e w19 ⟨rfl, rfl⟩
        exact hK _ _ ⟨rfl, hSW⟩
      | 10, _ =>
        intro aq W hSW hf
        have v7 : aq.tmps[7]? = some (.bool true) := hf.val 2 7 (by kernel_rfl) rfl
        have v11 : aq.tmps[11]? = some (.int .u32 ((p.a ^^^ x : Nat) : Int)) := hf.val 6 11 (by kernel_rfl) rfl
        have v14 : aq.tmps[14]? = some (.int .u32 (maskN p.l : Nat)) := hf.val 9 14 (by kernel_rfl) rfl
        clear hf
        refine wpOp_flow rfl (wanted_of rfl rfl v7) (fun Kq hK => ?_)
        have hb := HX2.out
        go_simp
        exact hK _ _ ⟨rfl, hSW⟩
      | 11, _ =>
        intro aq W hSW hf
        have v7 : aq.tmps[7]? = some (.bool true) := hf.val 2 7 (by kernel_rfl) rfl
        have v15 : aq.tmps[15]? = some (.int .u32 (((p.a ^^^ x) &&& maskN p.l : Nat) : Int)) := hf.val 10 15 (by kernel_rfl) rfl
        clear hf
        refine wpOp_flow rfl (wanted_of rfl rfl v7) (fun Kq hK => ?_)
        go_simp
        exact hK _ _ ⟨rfl, hSW⟩
      | 12, _ =>
        intro aq W hSW hf
        have v7 : aq.tmps[7]? = some (.bool true) := hf.val 2 7 (by kernel_rfl) rfl
        have v16 : aq.tmps[16]? = some (.bool ((((p.a ^^^ x) &&& maskN p.l : Nat) : Int) == 0)) := hf.val 11 16 (by kernel_rfl) rfl
        clear hf
        refine wpOp_flow rfl (by rfl) (fun Kq hK => ?_)
        go_simp
        exact hK _ _ ⟨rfl, hSW⟩
      | 13, _ =>
        intro aq W hSW hf
        have v17 : aq.tmps[17]? = some (.bool ((((p.a ^^^ x) &&& maskN p.l : Nat) : Int) == 0)) := hf.val 12 17 (by kernel_rfl) rfl
        clear hf
        refine wpOp_flow rfl (by rfl) (fun Kq hK => ?_)
        go_simp
        exact hK _ _ ⟨rfl, hSW⟩
      | kq + 14, hk => exact absurd hk (by first | omega | (intro h; simp at h; omega))
    · simp only [puts, Act.put, List.setIfInBounds_toArray, List.set_cons_zero, List.set_cons_succ]
      have hb := HB.out.trans (hSW.mono HB.out.size)
      clear hSW
      go_wp2
      go_ret
      rw [HH.out]
      exact ⟨rfl, hb⟩
  | false =>
    have hh : holdsF p x = false := by unfold holdsF; rw [hr]; rfl
    have HH := hidp hh
    have HRT := hidp hr
    clear hh hr
    go_enter Try.func82, Try.ntmps82
    go_upto_region 1 with (fail)
    change Code.wp Try.prog _ _ _ (w.alloc (.cells #[.int .u32 (p.a : Int), .int .i64 p.l] 44))
    generalize w.alloc (.cells #[.int .u32 (p.a : Int), .int .i64 p.l] 44) = w0 at *
    have C0 := hidp (show ∀ W, Below w0.heap.size w0 W → W.cell? ⟨w.heap.size, 0, none⟩ = some (.int .u32 (p.a : Int)) from fun W hW => below_cell hW (Nat.le_refl _) _ _ c0)
    have C1 := hidp (show ∀ W, Below w0.heap.size w0 W → W.cell? ⟨w.heap.size, 1, none⟩ = some (.int .i64 p.l) from fun W hW => below_cell hW (Nat.le_refl _) _ _ c1)
    have hd0 : Below w0.heap.size w0 w0.drew := (Below.refl _ _).drew
    clear c0 c1
    refine wp_region_flow2 (fun iqv => ([(p.val : Value), (.bool false : Value), (.bool false : Value), (undef : Value), (undef : Value), (undef : Value), (undef : Value), (undef : Value), (undef : Value), (undef : Value), (undef : Value), (undef : Value), (.bool false : Value), (.bool false : Value)] : List Value).getD iqv undef) [(some 5, p.val), (some 6, .bool false), (some 7, .bool false), (some 8, undef), (some 9, undef), (some 10, undef), (some 11, undef), (some 12, undef), (some 13, undef), (some 14, undef), (some 15, undef), (some 16, undef), (some 17, .bool false), (some 4, .bool false)] (fun W : World => Below w0.heap.size w0 W) (by kernel_rfl) (by kernel_rfl) hd0 (fun iq hiq => ?_) (by kernel_rfl) (fun W hSW => ?_)
    · match iq, hiq with
      | 0, _ =>
        intro aq W hSW hf
        have v2 : aq.tmps[2]? = some (.pointer (some ⟨w.heap.size, 0, none⟩)) := (hf.at_base 2 (by kernel_rfl)).trans rfl
        clear hf
        refine wpOp_flow rfl (by rfl) (fun Kq hK => ?_)
        have c0 := C0.out W hSW
        have c1 := C1.out W hSW
        go_simp
        exact hK _ _ ⟨rfl, hSW⟩
      | 1, _ =>
        intro aq W hSW hf
        have v5 : aq.tmps[5]? = some (p.val) := hf.val 0 5 (by kernel_rfl) rfl
        clear hf
        refine wpOp_flow rfl (by rfl) (fun Kq hK => ?_)
        go_simp
        refine (right_any p hp _).mono ?_
        rw [HRT.out]
        rintro e w19 ⟨rfl, B19⟩
        exact hK _ _ ⟨rfl, hSW.trans (B19.mono hSW.size)⟩
      | 2, _ =>
        intro aq W hSW hf
        have v6 : aq.tmps[6]? = some (.bool false) := hf.val 1 6 (by kernel_rfl) rfl
        clear hf
        refine wpOp_flow rfl (by rfl) (fun Kq hK => ?_)
        go_simp
        exact hK _ _ ⟨rfl, hSW⟩
      | 3, _ =>
        intro aq W hSW hf
        have v7 : aq.tmps[7]? = some (.bool false) := hf.val 2 7 (by kernel_rfl) rfl
        clear hf
        exact wpOp_skip rfl (unwanted_of rfl rfl v7) ⟨rfl, hSW⟩
      | 4, _ =>
        intro aq W hSW hf
        have v7 : aq.tmps[7]? = some (.bool false) := hf.val 2 7 (by kernel_rfl) rfl
        clear hf
        exact wpOp_skip rfl (unwanted_of rfl rfl v7) ⟨rfl, hSW⟩
      | 5, _ =>
        intro aq W hSW hf
        have v7 : aq.tmps[7]? = some (.bool false) := hf.val 2 7 (by kernel_rfl) rfl
        clear hf
        exact wpOp_skip rfl (unwanted_of rfl rfl v7) ⟨rfl, hSW⟩
      | 6, _ =>
        intro aq W hSW hf
        have v7 : aq.tmps[7]? = some (.bool false) := hf.val 2 7 (by kernel_rfl) rfl
        clear hf
        exact wpOp_skip rfl (unwanted_of rfl rfl v7) ⟨rfl, hSW⟩
      | 7, _ =>
        intro aq W hSW hf
        have v7 : aq.tmps[7]? = some (.bool false) := hf.val 2 7 (by kernel_rfl) rfl
        clear hf
        exact wpOp_skip rfl (unwanted_of rfl rfl v7) ⟨rfl, hSW⟩
      | 8, _ =>
        intro aq W hSW hf
        have v7 : aq.tmps[7]? = some (.bool false) := hf.val 2 7 (by kernel_rfl) rfl
        clear hf
        exact wpOp_skip rfl (unwanted_of rfl rfl v7) ⟨rfl, hSW⟩
      | 9, _ =>
        intro aq W hSW hf
        have v7 : aq.tmps[7]? = some (.bool false) := hf.val 2 7 (by kernel_rfl) rfl
        clear hf
        exact wpOp_skip rfl (unwanted_of rfl rfl v7) ⟨rfl, hSW⟩
      | 10, _ =>
        intro aq W hSW hf
        have v7 : aq.tmps[7]? = some (.bool false) := hf.val 2 7 (by kernel_rfl) rfl
        clear hf
        exact wpOp_skip rfl (unwanted_of rfl rfl v7) ⟨rfl, hSW⟩
      | 11, _ =>
        intro aq W hSW hf
        have v7 : aq.tmps[7]? = some (.bool false) := hf.val 2 7 (by kernel_rfl) rfl
        clear hf
        exact wpOp_skip rfl (unwanted_of rfl rfl v7) ⟨rfl, hSW⟩
      | 12, _ =>
        intro aq W hSW hf
        have v7 : aq.tmps[7]? = some (.bool false) := hf.val 2 7 (by kernel_rfl) rfl
        have v16 : aq.tmps[16]? = some (undef) := hf.val 11 16 (by kernel_rfl) rfl
        clear hf
        refine wpOp_flow rfl (by rfl) (fun Kq hK => ?_)
        go_simp
        exact hK _ _ ⟨rfl, hSW⟩
      | 13, _ =>
        intro aq W hSW hf
        have v17 : aq.tmps[17]? = some (.bool false) := hf.val 12 17 (by kernel_rfl) rfl
        clear hf
        refine wpOp_flow rfl (by rfl) (fun Kq hK => ?_)
        go_simp
        exact hK _ _ ⟨rfl, hSW⟩
      | kq + 14, hk => exact absurd hk (by first | omega | (intro h; simp at h; omega))
    · simp only [puts, Act.put, List.setIfInBounds_toArray, List.set_cons_zero, List.set_cons_succ]
      have hb := HB.out.trans (hSW.mono HB.out.size)
      clear hSW
      go_wp2
      go_ret
      rw [HH.out]
      exact ⟨rfl, hb⟩

def coversF (p q : Pf) : Bool := rightF q && (decide (p.l ≤ q.l) && holdsF p q.a)
set_option maxHeartbeats 1000000 in
theorem covers_any (p q : Pf) (hp : p.ok) (hq : q.ok) (w : World) : Calls Try.prog 66 #[p.val, q.val] w fun e w' => e = .returned (.bool (coversF p q)) ∧ Below w.heap.size w w' := by
  have hB := ((Below.refl w.heap.size w).alloc (Nat.le_refl _) (.cells #[.int .u32 (p.a : Int), .int .i64 p.l] 44)).alloc (by simp) (.cells #[.int .u32 (q.a : Int), .int .i64 q.l] 44)
  have k0 : ((w.alloc (.cells #[.int .u32 (p.a : Int), .int .i64 p.l] 44)).alloc (.cells #[.int .u32 (q.a : Int), .int .i64 q.l] 44)).heap[w.heap.size]? = some (.cells #[.int .u32 (p.a : Int), .int .i64 p.l] 44 (0, 0)) := heap_alloc_at (heap_alloc_new w _) _
  have k1 : ((w.alloc (.cells #[.int .u32 (p.a : Int), .int .i64 p.l] 44)).alloc (.cells #[.int .u32 (q.a : Int), .int .i64 q.l] 44)).heap[w.heap.size + 1]? = some (.cells #[.int .u32 (q.a : Int), .int .i64 q.l] 44 (0, 0)) := heap_alloc_top _ _ _ (by simp)
  have HB := hidp hB
  have K0 := hidp k0
  have K1 := hidp k1
  clear hB k0 k1
  have hpv : p.val = .agg #[.int .u32 (p.a : Int), .int .i64 p.l] := rfl
  have hqv : q.val = .agg #[.int .u32 (q.a : Int), .int .i64 q.l] := rfl
  rw [hpv, hqv]
  have HR := hidp (fun W => right_any q hq W)
  have HH := hidp (fun W => holds_any p hp q.a hq W)
  obtain ⟨r, hr⟩ : ∃ r, r = rightF q := ⟨_, rfl⟩
  obtain ⟨h, hh⟩ : ∃ h, h = holdsF p q.a := ⟨_, rfl⟩
  have hc : coversF p q = (r && (decide (p.l ≤ q.l) && h)) := by rw [hr, hh]; rfl
  have HC := hidp hc
  rw [← hr] at HR
  rw [← hh] at HH
  rw [hpv] at HH
  rw [hqv] at HR
  clear hr hh hc hpv hqv
  go_enter Try.func66, Try.ntmps66
  go_upto_region 1 with (fail)
  change Code.wp Try.prog _ _ _ ((w.alloc (.cells #[.int .u32 (p.a : Int), .int .i64 p.l] 44)).alloc (.cells #[.int .u32 (q.a : Int), .int .i64 q.l] 44))
  generalize (w.alloc (.cells #[.int .u32 (p.a : Int), .int .i64 p.l] 44)).alloc (.cells #[.int .u32 (q.a : Int), .int .i64 q.l] 44) = w0 at *
  have c0 := cellOf K1.out 0 (v := .int .u32 (q.a : Int)) rfl
  have c1 := cellOf K1.out 1 (v := .int .i64 q.l) rfl
  by_cases hl : p.l ≤ q.l
  · rw [decide_eq_true hl, Bool.true_and] at HC
    cases r with
    | true =>
      go_wp2_with (first
        | (go_at_call 42; refine (HR.out _).mono ?_; rintro e w1 ⟨rfl, B1⟩
           have j0 := heap_below B1 K0.out (ltOf K0.out)
           have j1 := heap_below B1 K1.out (ltOf K1.out)
           have d0 := cellOf j0 0 (v := .int .u32 (p.a : Int)) rfl
           have d1 := cellOf j0 1 (v := .int .i64 p.l) rfl
           have e0 := cellOf j1 0 (v := .int .u32 (q.a : Int)) rfl
           have e1 := cellOf j1 1 (v := .int .i64 q.l) rfl
           have HB1 := hidp (HB.out.trans (B1.mono HB.out.size))
           clear j0 j1 B1 c0 c1)
        | (go_at_call 82; refine (HH.out _).mono ?_; rintro e w2 ⟨rfl, B2⟩
           have HB2 := hidp (HB1.out.trans (B2.mono HB1.out.size))
           clear B2))
      go_ret
      rw [HC.out]
      exact ⟨rfl, HB2.out⟩
    | false =>
      go_wp2_with (first
        | (go_at_call 42; refine (HR.out _).mono ?_; rintro e w1 ⟨rfl, B1⟩
           have HB1 := hidp (HB.out.trans (B1.mono HB.out.size))
           clear B1))
      go_ret
      rw [HC.out]
      exact ⟨rfl, HB1.out⟩
  · rw [decide_eq_false hl, Bool.false_and] at HC
    cases r with
    | true =>
      go_wp2_with (first
        | (go_at_call 42; refine (HR.out _).mono ?_; rintro e w1 ⟨rfl, B1⟩
           have j0 := heap_below B1 K0.out (ltOf K0.out)
           have j1 := heap_below B1 K1.out (ltOf K1.out)
           have d1 := cellOf j0 1 (v := .int .i64 p.l) rfl
           have e1 := cellOf j1 1 (v := .int .i64 q.l) rfl
           have HB1 := hidp (HB.out.trans (B1.mono HB.out.size))
           clear j0 j1 B1 c0 c1))
      go_ret
      rw [HC.out]
      exact ⟨rfl, HB1.out⟩
    | false =>
      go_wp2_with (first
        | (go_at_call 42; refine (HR.out _).mono ?_; rintro e w1 ⟨rfl, B1⟩
           have HB1 := hidp (HB.out.trans (B1.mono HB.out.size))
           clear B1))
      go_ret
      rw [HC.out]
      exact ⟨rfl, HB1.out⟩

def bitF (x : Nat) (i : Int) : Nat := if i < 0 ∨ 32 ≤ i then 0 else x / 2 ^ (31 - i).toNat % 2
theorem bit_any (x : Nat) (hx : x < 4294967296) (i : Int) (w : World) : Calls Try.prog 68 #[.int .u32 (x : Int), .int .i64 i] w fun e w' => e = .returned (.int .i64 (bitF x i : Nat)) ∧ w' = w := by
  by_cases h1 : i < 0
  · have hb : bitF x i = 0 := by unfold bitF; rw [if_pos (.inl h1)]
    rw [hb]
    go_enter Try.func68, Try.ntmps68
    go_wp2
    go_ret
    exact ⟨rfl, rfl⟩
  · by_cases h2 : 32 ≤ i
    · have hb : bitF x i = 0 := by unfold bitF; rw [if_pos (.inr h2)]
      rw [hb]
      go_enter Try.func68, Try.ntmps68
      go_wp2
      go_ret
      exact ⟨rfl, rfl⟩
    · have hb : bitF x i = x / 2 ^ (31 - i).toNat % 2 := by unfold bitF; rw [if_neg (by omega)]
      have hv : wrap64 (bits .and .u32 ((x : Int) / 2 ^ (31 - i).toNat) 1) = ((bitF x i : Nat) : Int) := by
        rw [hb, show ((x : Int) / 2 ^ (31 - i).toNat) = ((x / 2 ^ (31 - i).toNat : Nat) : Int) by simp, show (1 : Int) = ((1 : Nat) : Int) from rfl]
        have hle := Nat.div_le_self x (2 ^ (31 - i).toNat)
        generalize x / 2 ^ (31 - i).toNat = y at *
        rw [u32_and_nat y 1 (by omega) (by decide), Nat.and_one_is_mod]
        simp only [wrap64]
        omega
      have HBT := hidp hv
      clear hb hv
      go_enter Try.func68, Try.ntmps68
      go_wp2
      rw [HBT.out]
      go_ret
      exact ⟨rfl, rfl⟩
/-- by which kid q is below p -/
def sideF (p q : Pf) : Nat := bitF q.a p.l
theorem side_any (p q : Pf) (hq : q.ok) (w : World) : Calls Try.prog 56 #[p.val, q.val] w fun e w' => e = .returned (.int .i64 (sideF p q : Nat)) ∧ Below w.heap.size w w' := by
  have hB := ((Below.refl w.heap.size w).alloc (Nat.le_refl _) (.cells #[.int .u32 (p.a : Int), .int .i64 p.l] 44)).alloc (by simp) (.cells #[.int .u32 (q.a : Int), .int .i64 q.l] 44)
  have HB := hidp hB
  clear hB
  have hpv : p.val = .agg #[.int .u32 (p.a : Int), .int .i64 p.l] := rfl
  have hqv : q.val = .agg #[.int .u32 (q.a : Int), .int .i64 q.l] := rfl
  rw [hpv, hqv]
  have HBT := hidp (fun W => bit_any q.a hq p.l W)
  unfold sideF
  go_enter Try.func56, Try.ntmps56
  go_wp2_with (first
    | (go_at_call 68; refine (HBT.out _).mono ?_; rintro e w1 ⟨rfl, rfl⟩))
  go_ret
  exact ⟨rfl, HB.out⟩
theorem side_lt (p q : Pf) : sideF p q = 0 ∨ sideF p q = 1 := by
  unfold sideF bitF
  split
  · exact .inl rfl
  · have := Nat.mod_lt (q.a / 2 ^ (31 - p.l).toNat) (show 0 < 2 by decide)
    omega
def cmpF (p q : Pf) : Int := if p.a < q.a ∨ p.a = q.a ∧ p.l < q.l then -1 else if p.a = q.a ∧ p.l = q.l then 0 else 1
end Go.Proofs.Ytnenpfalhbbadaa
