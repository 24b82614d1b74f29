/- Compare, Norm, Common. -/
import Derived.Test.YtnenpfalhbbadaaPD
namespace Go.Proofs.Ytnenpfalhbbadaa
open Go.RowKit

set_option maxHeartbeats 1000000 in
theorem cmp_any (p q : Pf) (w : World) : Calls Try.prog 47 #[p.val, q.val] w fun e w' => e = .returned (.int .i64 (cmpF p q)) ∧ Below w.heap.size w w' := by
  have hB := ((Below.refl w.heap.size w).alloc (Nat.le_refl _) (.cells #[.int .u32 (p.a : Int), .int .i64 p.l] 44)).alloc (by simp) (.cells #[.int .u32 (q.a : Int), .int .i64 q.l] 44)
  have k0 : ((w.alloc (.cells #[.int .u32 (p.a : Int), .int .i64 p.l] 44)).alloc (.cells #[.int .u32 (q.a : Int), .int .i64 q.l] 44)).heap[w.heap.size]? = some (.cells #[.int .u32 (p.a : Int), .int .i64 p.l] 44 (0, 0)) := heap_alloc_at (heap_alloc_new w _) _
  have k1 : ((w.alloc (.cells #[.int .u32 (p.a : Int), .int .i64 p.l] 44)).alloc (.cells #[.int .u32 (q.a : Int), .int .i64 q.l] 44)).heap[w.heap.size + 1]? = some (.cells #[.int .u32 (q.a : Int), .int .i64 q.l] 44 (0, 0)) := heap_alloc_top _ _ _ (by simp)
  have c0 := cellOf k0 0 (v := .int .u32 (p.a : Int)) rfl
  have c1 := cellOf k0 1 (v := .int .i64 p.l) rfl
  have d0 := cellOf k1 0 (v := .int .u32 (q.a : Int)) rfl
  have d1 := cellOf k1 1 (v := .int .i64 q.l) rfl
  have HB := hidp hB
  have heq := eq44
  clear hB k0 k1
  have hpv : p.val = .agg #[.int .u32 (p.a : Int), .int .i64 p.l] := rfl
  have hqv : q.val = .agg #[.int .u32 (q.a : Int), .int .i64 q.l] := rfl
  rw [hpv, hqv]
  clear hpv hqv
  rcases Nat.lt_trichotomy p.a q.a with h | h | h
  · have hc : cmpF p q = -1 := by unfold cmpF; rw [if_pos (.inl h)]
    rw [hc]
    have l1 : decide ((p.a : Int) < (q.a : Int)) = true := by simpa using h
    clear hc h
    generalize (p.a : Int) = x at *
    generalize (q.a : Int) = y at *
    generalize p.l = m at *
    generalize q.l = n at *
    go_enter Try.func47, Try.ntmps47
    go_upto_region 1 with (fail)
    generalize (w.alloc (.cells #[.int .u32 x, .int .i64 m] 44)).alloc (.cells #[.int .u32 y, .int .i64 n] 44) = w0 at *
    go_wp2
    go_ret
    exact ⟨rfl, HB.out⟩
  · rcases Int.lt_trichotomy p.l q.l with h2 | h2 | h2
    · have hc : cmpF p q = -1 := by unfold cmpF; rw [if_pos (.inr ⟨h, h2⟩)]
      rw [hc]
      have l1 : decide ((p.a : Int) < (q.a : Int)) = false := by simp; omega
      have l2 : ((p.a : Int) == (q.a : Int)) = true := by simp [h]
      have l3 : decide (p.l < q.l) = true := by simpa using h2
      clear hc h h2
      generalize (p.a : Int) = x at *
      generalize (q.a : Int) = y at *
      generalize p.l = m at *
      generalize q.l = n at *
      go_enter Try.func47, Try.ntmps47
      go_upto_region 1 with (fail)
      generalize (w.alloc (.cells #[.int .u32 x, .int .i64 m] 44)).alloc (.cells #[.int .u32 y, .int .i64 n] 44) = w0 at *
      go_wp2
      go_ret
      exact ⟨rfl, HB.out⟩
    · have hc : cmpF p q = 0 := by unfold cmpF; rw [if_neg (by omega), if_pos ⟨h, h2⟩]
      rw [hc]
      have l1 : decide ((p.a : Int) < (q.a : Int)) = false := by simp; omega
      have l2 : ((p.a : Int) == (q.a : Int)) = true := by simp [h]
      have l3 : decide (p.l < q.l) = false := by simp; omega
      have l4 : (p.l == q.l) = true := by simp [h2]
      clear hc h h2
      generalize (p.a : Int) = x at *
      generalize (q.a : Int) = y at *
      generalize p.l = m at *
      generalize q.l = n at *
      go_enter Try.func47, Try.ntmps47
      go_upto_region 1 with (fail)
      generalize (w.alloc (.cells #[.int .u32 x, .int .i64 m] 44)).alloc (.cells #[.int .u32 y, .int .i64 n] 44) = w0 at *
      go_wp2
      go_ret
      exact ⟨rfl, HB.out⟩
    · have hc : cmpF p q = 1 := by unfold cmpF; rw [if_neg (by omega), if_neg (by omega)]
      rw [hc]
      have l1 : decide ((p.a : Int) < (q.a : Int)) = false := by simp; omega
      have l2 : ((p.a : Int) == (q.a : Int)) = true := by simp [h]
      have l3 : decide (p.l < q.l) = false := by simp; omega
      have l4 : (p.l == q.l) = false := by simp; omega
      clear hc h h2
      generalize (p.a : Int) = x at *
      generalize (q.a : Int) = y at *
      generalize p.l = m at *
      generalize q.l = n at *
      go_enter Try.func47, Try.ntmps47
      go_upto_region 1 with (fail)
      generalize (w.alloc (.cells #[.int .u32 x, .int .i64 m] 44)).alloc (.cells #[.int .u32 y, .int .i64 n] 44) = w0 at *
      go_wp2
      go_ret
      exact ⟨rfl, HB.out⟩
  · have hc : cmpF p q = 1 := by unfold cmpF; rw [if_neg (by omega), if_neg (by omega)]
    rw [hc]
    have l1 : decide ((p.a : Int) < (q.a : Int)) = false := by simp; omega
    have l2 : ((p.a : Int) == (q.a : Int)) = false := by simp; omega
    clear hc h
    generalize (p.a : Int) = x at *
    generalize (q.a : Int) = y at *
    generalize p.l = m at *
    generalize q.l = n at *
    go_enter Try.func47, Try.ntmps47
    go_upto_region 1 with (fail)
    generalize (w.alloc (.cells #[.int .u32 x, .int .i64 m] 44)).alloc (.cells #[.int .u32 y, .int .i64 n] 44) = w0 at *
    go_wp2
    go_ret
    exact ⟨rfl, HB.out⟩

theorem results_pf {fn : Func} {p : Tmp} (h : fn.results = #[.cell p 44]) (tmps : Array Value) (w : World) (g : Nat) (cs : Array Value) (hs : cs.size = 2) (hp : tmps.getD p undef = .pointer (some ⟨g, 0, none⟩)) (hg : w.heap[g]? = some (.cells cs 44 (0, 0))) :
    (results fn tmps).run Try.prog w = .ok (.agg cs) w :=
  results_cell_row h tmps w g 44 cs (0, 0) _ hp hg Try.underlying44 rfl (by rw [hs]; exact Try.info44)
def lenF (n : Int) : Int := if 32 < (if n < 0 then 0 else n) then 32 else if n < 0 then 0 else n
def normF (x : Nat) (n : Int) : Pf := ⟨x &&& maskN (lenF n), lenF n⟩
theorem norm_any (x : Nat) (hx : x < 4294967296) (n : Int) (w : World) : Calls Try.prog 83 #[.int .u32 (x : Int), .int .i64 n] w fun e w' => e = .returned (normF x n).val ∧ Below w.heap.size w w' := by
  have hn := u32_and_nat x (maskN (lenF n)) hx (mask_le _)
  have HM := hidp (fun W => mask_any (lenF n) W)
  have HN := hidp hn
  have hv : (normF x n).val = .agg #[.int .u32 ((x &&& maskN (lenF n) : Nat) : Int), .int .i64 (lenF n)] := rfl
  rw [hv]
  have hl : lenF n = if 32 < (if n < 0 then 0 else n) then 32 else if n < 0 then 0 else n := rfl
  clear hn hv
  obtain ⟨k, hk⟩ : ∃ k, k = lenF n := ⟨_, rfl⟩
  rw [← hk] at HM HN hl ⊢
  clear hk
  go_enter Try.func83, Try.ntmps83
  go_upto_region 2 with (fail)
  rw [← hl]
  clear hl
  go_wp2_with (first
    | (go_at_call 57; refine (HM.out _).mono ?_; rintro e w1 ⟨rfl, rfl⟩))
  all_goals
    rw [HN.out]
    refine bodyPost_ret (results_pf rfl _ _ w.heap.size _ rfl rfl (heap_alloc_new _ _)) rfl ?_
    exact ⟨rfl, by go_grown⟩

/-- how many first bits two numbers share, of n at most -/
def cnF (a b : Nat) : Nat → Nat
  | 0 => 0
  | n + 1 => if (a ^^^ b) &&& maskN ((n + 1 : Nat) : Int) = 0 then n + 1 else cnF a b n
def commonF (p q : Pf) : Pf := if rightF p = true ∧ rightF q = true then normF p.a (cnF p.a q.a (if q.l < p.l then q.l else p.l).toNat : Nat) else ⟨0, 0⟩
def Pf.cells (p : Pf) : List Value := [.int .u32 (p.a : Int), .int .i64 p.l]
theorem info44n {p : Pf} : (Try.prog.info? 44).map (·.size) = some p.cells.toArray.size := Try.info44
theorem pf_one {p : Pf} : p.cells.toArray.all (·.oneCell') = true := by simp [Pf.cells, Value.oneCell']
theorem info44z : (Try.prog.info? 44).map (·.size) = some (#[Value.int .u32 0, .int .i64 0] : Array Value).size := Try.info44
theorem zero44 : (#[Value.int .u32 0, .int .i64 0] : Array Value).all (·.oneCell') = true := by simp [Value.oneCell']
set_option maxHeartbeats 4000000 in
theorem common_any (p q : Pf) (hp : p.ok) (hq : q.ok) (w : World) : Calls Try.prog 69 #[p.val, q.val] w fun e w' => e = .returned (commonF p q).val ∧ Below w.heap.size w w' := by
  have hB := (((Below.refl w.heap.size w).alloc (Nat.le_refl _) (.cells #[.int .u32 (p.a : Int), .int .i64 p.l] 44)).alloc (by simp) (.cells #[.int .u32 (q.a : Int), .int .i64 q.l] 44)).alloc (by simp; omega) (.cells #[.int .u32 0, .int .i64 0] 44)
  have k0 : (((w.alloc (.cells #[.int .u32 (p.a : Int), .int .i64 p.l] 44)).alloc (.cells #[.int .u32 (q.a : Int), .int .i64 q.l] 44)).alloc (.cells #[.int .u32 0, .int .i64 0] 44)).heap[w.heap.size]? = some (.cells #[.int .u32 (p.a : Int), .int .i64 p.l] 44 (0, 0)) := heap_alloc_at (heap_alloc_at (heap_alloc_new w _) _) _
  have k1 : (((w.alloc (.cells #[.int .u32 (p.a : Int), .int .i64 p.l] 44)).alloc (.cells #[.int .u32 (q.a : Int), .int .i64 q.l] 44)).alloc (.cells #[.int .u32 0, .int .i64 0] 44)).heap[w.heap.size + 1]? = some (.cells #[.int .u32 (q.a : Int), .int .i64 q.l] 44 (0, 0)) := heap_alloc_at (heap_alloc_top _ _ _ (by simp)) _
  have k2 : (((w.alloc (.cells #[.int .u32 (p.a : Int), .int .i64 p.l] 44)).alloc (.cells #[.int .u32 (q.a : Int), .int .i64 q.l] 44)).alloc (.cells #[.int .u32 0, .int .i64 0] 44)).heap[w.heap.size + 1 + 1]? = some (.cells #[.int .u32 0, .int .i64 0] 44 (0, 0)) := heap_alloc_top _ _ _ (by simp)
  have HB := hidp hB
  have K0 := hidp k0
  have K1 := hidp k1
  have K2 := hidp k2
  clear hB k0 k1 k2
  have hpv : p.val = .agg #[.int .u32 (p.a : Int), .int .i64 p.l] := rfl
  have hqv : q.val = .agg #[.int .u32 (q.a : Int), .int .i64 q.l] := rfl
  rw [hpv, hqv]
  have HR := hidp (fun W => right_any q hq W)
  have HS := hidp (fun W => right_any p hp W)
  rw [hqv] at HR
  rw [hpv] at HS
  clear hpv hqv
  cases hrp : rightF p with
  | false =>
    have hc : (commonF p q).val = .agg #[.int .u32 0, .int .i64 0] := by unfold commonF; rw [hrp, if_neg (by simp)]; rfl
    rw [hc]
    rw [hrp] at HS
    clear hc hrp HR
    go_enter Try.func69, Try.ntmps69
    go_upto_region 1 with (fail)
    generalize ((w.alloc (.cells #[.int .u32 (p.a : Int), .int .i64 p.l] 44)).alloc (.cells #[.int .u32 (q.a : Int), .int .i64 q.l] 44)).alloc (.cells #[.int .u32 0, .int .i64 0] 44) = w0 at *
    have c0 := cellOf K0.out 0 (v := .int .u32 (p.a : Int)) rfl
    have c1 := cellOf K0.out 1 (v := .int .i64 p.l) rfl
    go_wp2_with (first
      | (go_at_call 42; with_reducible refine (HS.out _).mono ?_; rintro e w1 ⟨rfl, B1⟩
         have HB1 := hidp (HB.out.trans (B1.mono HB.out.size))
         have Z := hidp (heap_below B1 K2.out (ltOf K2.out))
         clear B1 c0 c1)
      | (with_reducible refine wpList_store_row rfl 44 (.tmp 4) (.tmp 14) rfl (w.heap.size + 1 + 1) #[.int .u32 0, .int .i64 0] rfl rfl 44 _ Z.out info44z rfl zero44 ?_))
    refine bodyPost_ret (results_pf rfl _ _ (w.heap.size + 1 + 1) _ rfl rfl (setRow_heap _ _ _ _ _ _ Z.out)) rfl ?_
    exact ⟨rfl, below_setRow HB1.out _ (by omega) _⟩
  | true =>
    rw [hrp] at HS
    cases hrq : rightF q with
    | false =>
      have hc : (commonF p q).val = .agg #[.int .u32 0, .int .i64 0] := by unfold commonF; rw [hrq, if_neg (by simp)]; rfl
      rw [hc]
      rw [hrq] at HR
      clear hc hrp hrq
      go_enter Try.func69, Try.ntmps69
      go_upto_region 1 with (fail)
      generalize ((w.alloc (.cells #[.int .u32 (p.a : Int), .int .i64 p.l] 44)).alloc (.cells #[.int .u32 (q.a : Int), .int .i64 q.l] 44)).alloc (.cells #[.int .u32 0, .int .i64 0] 44) = w0 at *
      have c0 := cellOf K0.out 0 (v := .int .u32 (p.a : Int)) rfl
      have c1 := cellOf K0.out 1 (v := .int .i64 p.l) rfl
      go_wp2_with (first
        | (go_at_call 42; with_reducible refine (HS.out _).mono ?_; rintro e w1 ⟨rfl, B1⟩
           have d0 := cellOf (heap_below B1 K1.out (ltOf K1.out)) 0 (v := .int .u32 (q.a : Int)) rfl
           have d1 := cellOf (heap_below B1 K1.out (ltOf K1.out)) 1 (v := .int .i64 q.l) rfl
           have HBa := hidp B1
           clear B1 c0 c1)
        | (go_at_call 42; with_reducible refine (HR.out _).mono ?_; rintro e w1 ⟨rfl, B1⟩
           have HBb := hidp (HBa.out.trans (B1.mono HBa.out.size))
           have HB1 := hidp (HB.out.trans (HBb.out.mono HB.out.size))
           have Z := hidp (heap_below HBb.out K2.out (ltOf K2.out))
           clear B1 d0 d1)
        | (with_reducible refine wpList_store_row rfl 44 (.tmp 4) (.tmp 14) rfl (w.heap.size + 1 + 1) #[.int .u32 0, .int .i64 0] rfl rfl 44 _ Z.out info44z rfl zero44 ?_))
      refine bodyPost_ret (results_pf rfl _ _ (w.heap.size + 1 + 1) _ rfl rfl (setRow_heap _ _ _ _ _ _ Z.out)) rfl ?_
      exact ⟨rfl, below_setRow HB1.out _ (by omega) _⟩
    | true =>
      obtain ⟨n0, hn0⟩ : ∃ n0, n0 = (if q.l < p.l then q.l else p.l).toNat := ⟨_, rfl⟩
      have hc : commonF p q = normF p.a (cnF p.a q.a n0 : Nat) := by unfold commonF; rw [if_pos ⟨hrp, hrq⟩, hn0]
      have hmin : (if q.l < p.l then q.l else p.l) = (n0 : Int) := by
        have h1 := (right_len hrp).1
        have h2 := (right_len hrq).1
        rw [hn0]
        split <;> omega
      have HN0 : Hid (n0 ≤ 32) := by
        have h1 := right_len hrp
        have h2 := right_len hrq
        rw [hn0]
        show _ ≤ _
        split <;> omega
      rw [hc]
      rw [hrq] at HR
      have HX1 := hidp (u32_xor_nat p.a q.a hp hq)
      have HX2 := hidp (fun n : Int => u32_and_nat (p.a ^^^ q.a) (maskN n) (Nat.xor_lt_two_pow (n := 32) hp hq) (mask_le _))
      clear hc hrp hrq hn0
      go_enter Try.func69, Try.ntmps69
      go_upto_region 1 with (fail)
      generalize ((w.alloc (.cells #[.int .u32 (p.a : Int), .int .i64 p.l] 44)).alloc (.cells #[.int .u32 (q.a : Int), .int .i64 q.l] 44)).alloc (.cells #[.int .u32 0, .int .i64 0] 44) = w0 at *
      have c0 := cellOf K0.out 0 (v := .int .u32 (p.a : Int)) rfl
      have c1 := cellOf K0.out 1 (v := .int .i64 p.l) rfl
      go_upto_region 3 with (first
        | (go_at_call 42; with_reducible refine (HS.out _).mono ?_; rintro e w1 ⟨rfl, B1⟩
           have d0 := cellOf (heap_below B1 K1.out (ltOf K1.out)) 0 (v := .int .u32 (q.a : Int)) rfl
           have d1 := cellOf (heap_below B1 K1.out (ltOf K1.out)) 1 (v := .int .i64 q.l) rfl
           have HBa := hidp B1
           clear B1 c0 c1)
        | (go_at_call 42; with_reducible refine (HR.out _).mono ?_; rintro e w2 ⟨rfl, B1⟩
           have HBb := hidp (HBa.out.trans (B1.mono HBa.out.size))
           clear B1 d0 d1))
      have d1 := cellOf (heap_below HBb.out K1.out (ltOf K1.out)) 1 (v := .int .i64 q.l) rfl
      have c1 := cellOf (heap_below HBb.out K0.out (ltOf K0.out)) 1 (v := .int .i64 p.l) rfl
      go_wp2
      obtain ⟨w3, rfl⟩ : ∃ w3, w3 = w2 := ⟨_, rfl⟩
      have HBW := hidp HBb.out
      clear c1 d1
      go_loopg [5] n0 (fun k x wr => ∃ m : Nat, m ≤ k ∧ m ≤ n0 ∧ x = .int .i64 (m : Int) ∧ cnF p.a q.a m = cnF p.a q.a n0 ∧ Below w0.heap.size w0 wr)
      case atStart => exact ⟨n0, Nat.le_refl _, Nat.le_refl _, rfl, rfl, HBW.out⟩
      case round =>
        obtain ⟨m, hmk, hmn, hx, hcn, hB⟩ := hrel
        obtain ⟨M, hM⟩ : ∃ M : Int, M = (m : Int) := ⟨_, rfl⟩
        rw [← hM] at hx
        subst hx
        obtain ⟨w4, rfl⟩ : ∃ w4, w4 = wr := ⟨_, rfl⟩
        have HB4 := hidp hB
        have C0 := hidp (show ∀ W, Below w4.heap.size w4 W → W.cell? ⟨w.heap.size, 0, none⟩ = some (.int .u32 (p.a : Int)) from fun W hW => cellOf (heap_below (hB.trans (hW.mono hB.size)) K0.out (ltOf K0.out)) 0 rfl)
        have D0 := hidp (show ∀ W, Below w4.heap.size w4 W → W.cell? ⟨w.heap.size + 1, 0, none⟩ = some (.int .u32 (q.a : Int)) from fun W hW => cellOf (heap_below (hB.trans (hW.mono hB.size)) K1.out (ltOf K1.out)) 0 rfl)
        have hd4 : Below w4.heap.size w4 w4.drew := (Below.refl _ _).drew
        have HCN := hidp hcn
        have HMK := hidp hmn
        have HMG := hidp hmk
        clear hB hcn hmk hmn
        cases m with
        | zero =>
          have hM0 : M = 0 := hM
          subst hM0
          clear hM
          go_wp2
          refine wp_region_flow2 (fun iqv => ([(.int .i64 (0 : Int) : Value), (.bool false : Value), (.bool false : Value), (undef : Value), (undef : Value), (undef : Value), (undef : Value), (undef : Value), (undef : Value), (undef : Value), (undef : Value), (undef : Value), (.bool false : Value)] : List Value).getD iqv undef) [(some 20, .int .i64 (0 : Int)), (some 21, .bool false), (some 22, .bool false), (some 23, undef), (some 24, undef), (some 25, undef), (some 26, undef), (some 27, undef), (some 28, undef), (some 29, undef), (some 30, undef), (some 31, undef), (some 32, .bool false)] (fun W : World => Below w4.heap.size w4 W) (by kernel_rfl) (by kernel_rfl) hd4 (fun iq hiq => ?_) (by kernel_rfl) (fun W hSW => ?_)
          · match iq, hiq with
            | 0, _ =>
              intro aq W hSW hf
              have v5 : aq.tmps[5]? = some (.int .i64 (0 : Int)) := (hf.at_base 5 (by kernel_rfl)).trans rfl
              clear hf
              refine wpOp_flow rfl (by rfl) (fun Kq hK => ?_)
              go_simp
              exact hK _ _ ⟨rfl, hSW⟩
            | 1, _ =>
              intro aq W hSW hf
              have v20 : aq.tmps[20]? = some (.int .i64 (0 : Int)) := hf.val 0 20 (by kernel_rfl) rfl
              clear hf
              refine wpOp_flow rfl (by rfl) (fun Kq hK => ?_)
              go_simp
              exact hK _ _ ⟨rfl, hSW⟩
            | 2, _ =>
              intro aq W hSW hf
              have v21 : aq.tmps[21]? = some (.bool false) := hf.val 1 21 (by kernel_rfl) rfl
              clear hf
              refine wpOp_flow rfl (by rfl) (fun Kq hK => ?_)
              go_simp
              exact hK _ _ ⟨rfl, hSW⟩
            | 3, _ =>
              intro aq W hSW hf
              have v22 : aq.tmps[22]? = some (.bool false) := hf.val 2 22 (by kernel_rfl) rfl
              clear hf
              exact wpOp_skip rfl (unwanted_of rfl rfl v22) ⟨rfl, hSW⟩
            | 4, _ =>
              intro aq W hSW hf
              have v22 : aq.tmps[22]? = some (.bool false) := hf.val 2 22 (by kernel_rfl) rfl
              clear hf
              exact wpOp_skip rfl (unwanted_of rfl rfl v22) ⟨rfl, hSW⟩
            | 5, _ =>
              intro aq W hSW hf
              have v22 : aq.tmps[22]? = some (.bool false) := hf.val 2 22 (by kernel_rfl) rfl
              clear hf
              exact wpOp_skip rfl (unwanted_of rfl rfl v22) ⟨rfl, hSW⟩
            | 6, _ =>
              intro aq W hSW hf
              have v22 : aq.tmps[22]? = some (.bool false) := hf.val 2 22 (by kernel_rfl) rfl
              clear hf
              exact wpOp_skip rfl (unwanted_of rfl rfl v22) ⟨rfl, hSW⟩
            | 7, _ =>
              intro aq W hSW hf
              have v22 : aq.tmps[22]? = some (.bool false) := hf.val 2 22 (by kernel_rfl) rfl
              clear hf
              exact wpOp_skip rfl (unwanted_of rfl rfl v22) ⟨rfl, hSW⟩
            | 8, _ =>
              intro aq W hSW hf
              have v22 : aq.tmps[22]? = some (.bool false) := hf.val 2 22 (by kernel_rfl) rfl
              clear hf
              exact wpOp_skip rfl (unwanted_of rfl rfl v22) ⟨rfl, hSW⟩
            | 9, _ =>
              intro aq W hSW hf
              have v22 : aq.tmps[22]? = some (.bool false) := hf.val 2 22 (by kernel_rfl) rfl
              clear hf
              exact wpOp_skip rfl (unwanted_of rfl rfl v22) ⟨rfl, hSW⟩
            | 10, _ =>
              intro aq W hSW hf
              have v22 : aq.tmps[22]? = some (.bool false) := hf.val 2 22 (by kernel_rfl) rfl
              clear hf
              exact wpOp_skip rfl (unwanted_of rfl rfl v22) ⟨rfl, hSW⟩
            | 11, _ =>
              intro aq W hSW hf
              have v22 : aq.tmps[22]? = some (.bool false) := hf.val 2 22 (by kernel_rfl) rfl
              clear hf
              exact wpOp_skip rfl (unwanted_of rfl rfl v22) ⟨rfl, hSW⟩
            | 12, _ =>
              intro aq W hSW hf
              have v22 : aq.tmps[22]? = some (.bool false) := hf.val 2 22 (by kernel_rfl) rfl
              have v31 : aq.tmps[31]? = some (undef) := hf.val 11 31 (by kernel_rfl) rfl
              clear hf
              refine wpOp_flow rfl (by rfl) (fun Kq hK => ?_)
              go_simp
              exact hK _ _ ⟨rfl, hSW⟩
            | kq + 13, hk => exact absurd hk (by first | omega | (intro h; simp at h; omega))
          · simp only [puts, Act.put, List.setIfInBounds_toArray, List.set_cons_zero, List.set_cons_succ]
            have HB5 := hidp (HB4.out.trans (hSW.mono HB4.out.size))
            have c0 := C0.out W hSW
            clear hSW
            go_wp2_with (first
              | (go_at_call 83; refine (norm_any _ hp _ _).mono ?_; rintro e w9 ⟨rfl, B9⟩
                 have HB9 := hidp (HB5.out.trans (B9.mono HB5.out.size))
                 have Z := hidp (heap_below HB9.out K2.out (ltOf K2.out))
                 clear B9)
              | (with_reducible refine wpList_store_row rfl 44 (.tmp 4) (.tmp 38) rfl (w.heap.size + 1 + 1) (normF p.a (0 : Int)).cells.toArray rfl rfl 44 _ Z.out info44n rfl pf_one ?_))
            refine bodyPost_ret (results_pf rfl _ _ (w.heap.size + 1 + 1) _ rfl rfl (setRow_heap _ _ _ _ _ _ Z.out)) rfl ?_
            exact ⟨by rw [← HCN.out]; exact rfl, below_setRow (HB.out.trans (HB9.out.mono HB.out.size)) _ (by omega) _⟩
        | succ m =>
          obtain ⟨bv, hbv⟩ : ∃ bv, bv = ((((p.a ^^^ q.a) &&& maskN M : Nat) : Int) != 0) := ⟨_, rfl⟩
          have HBV := hidp hbv
          have HM := hidp hM
          have HM0 : Hid (decide ((0 : Int) < M) = true) := by
            rw [hM]
            exact decide_eq_true (by omega)
          clear hbv hM
          go_wp2
          refine wp_region_flow2 (fun iqv => ([(.int .i64 M : Value), (.bool true : Value), (.bool true : Value), (.pointer (some ⟨w.heap.size, 0, none⟩) : Value), (.int .u32 (p.a : Int) : Value), (.pointer (some ⟨w.heap.size + 1, 0, none⟩) : Value), (.int .u32 (q.a : Int) : Value), (.int .u32 ((p.a ^^^ q.a : Nat) : Int) : Value), (.int .i64 M : Value), (.int .u32 (maskN M : Nat) : Value), (.int .u32 (((p.a ^^^ q.a) &&& maskN M : Nat) : Int) : Value), (.bool bv : Value), (.bool bv : Value)] : List Value).getD iqv undef) [(some 20, .int .i64 M), (some 21, .bool true), (some 22, .bool true), (some 23, .pointer (some ⟨w.heap.size, 0, none⟩)), (some 24, .int .u32 (p.a : Int)), (some 25, .pointer (some ⟨w.heap.size + 1, 0, none⟩)), (some 26, .int .u32 (q.a : Int)), (some 27, .int .u32 ((p.a ^^^ q.a : Nat) : Int)), (some 28, .int .i64 M), (some 29, .int .u32 (maskN M : Nat)), (some 30, .int .u32 (((p.a ^^^ q.a) &&& maskN M : Nat) : Int)), (some 31, .bool bv), (some 32, .bool bv)] (fun W : World => Below w4.heap.size w4 W) (by kernel_rfl) (by kernel_rfl) hd4 (fun iq hiq => ?_) (by kernel_rfl) (fun W hSW => ?_)
          · match iq, hiq with
            | 0, _ =>
              intro aq W hSW hf
              have v5 : aq.tmps[5]? = some (.int .i64 M) := (hf.at_base 5 (by kernel_rfl)).trans rfl
              clear hf
              refine wpOp_flow rfl (by rfl) (fun Kq hK => ?_)
              go_simp
              exact hK _ _ ⟨rfl, hSW⟩
            | 1, _ =>
              intro aq W hSW hf
              have v20 : aq.tmps[20]? = some (.int .i64 M) := hf.val 0 20 (by kernel_rfl) rfl
              clear hf
              refine wpOp_flow rfl (by rfl) (fun Kq hK => ?_)
              have h0 := HM0.out
              go_simp
              exact hK _ _ ⟨rfl, hSW⟩
            | 2, _ =>
              intro aq W hSW hf
              have v21 : aq.tmps[21]? = some (.bool true) := hf.val 1 21 (by kernel_rfl) rfl
              clear hf
              refine wpOp_flow rfl (by rfl) (fun Kq hK => ?_)
              go_simp
              exact hK _ _ ⟨rfl, hSW⟩
            | 3, _ =>
              intro aq W hSW hf
              have v2 : aq.tmps[2]? = some (.pointer (some ⟨w.heap.size, 0, none⟩)) := (hf.at_base 2 (by kernel_rfl)).trans rfl
              have v22 : aq.tmps[22]? = some (.bool true) := hf.val 2 22 (by kernel_rfl) rfl
              clear hf
              refine wpOp_flow rfl (wanted_of rfl rfl v22) (fun Kq hK => ?_)
              go_simp
              exact hK _ _ ⟨rfl, hSW⟩
            | 4, _ =>
              intro aq W hSW hf
              have v22 : aq.tmps[22]? = some (.bool true) := hf.val 2 22 (by kernel_rfl) rfl
              have v23 : aq.tmps[23]? = some (.pointer (some ⟨w.heap.size, 0, none⟩)) := hf.val 3 23 (by kernel_rfl) rfl
              clear hf
              refine wpOp_flow rfl (wanted_of rfl rfl v22) (fun Kq hK => ?_)
              have c0 := C0.out W hSW
              go_simp
              exact hK _ _ ⟨rfl, hSW⟩
            | 5, _ =>
              intro aq W hSW hf
              have v3 : aq.tmps[3]? = some (.pointer (some ⟨w.heap.size + 1, 0, none⟩)) := (hf.at_base 3 (by kernel_rfl)).trans rfl
              have v22 : aq.tmps[22]? = some (.bool true) := hf.val 2 22 (by kernel_rfl) rfl
              clear hf
              refine wpOp_flow rfl (wanted_of rfl rfl v22) (fun Kq hK => ?_)
              go_simp
              exact hK _ _ ⟨rfl, hSW⟩
            | 6, _ =>
              intro aq W hSW hf
              have v22 : aq.tmps[22]? = some (.bool true) := hf.val 2 22 (by kernel_rfl) rfl
              have v25 : aq.tmps[25]? = some (.pointer (some ⟨w.heap.size + 1, 0, none⟩)) := hf.val 5 25 (by kernel_rfl) rfl
              clear hf
              refine wpOp_flow rfl (wanted_of rfl rfl v22) (fun Kq hK => ?_)
              have d0 := D0.out W hSW
              go_simp
              exact hK _ _ ⟨rfl, hSW⟩
            | 7, _ =>
              intro aq W hSW hf
              have v22 : aq.tmps[22]? = some (.bool true) := hf.val 2 22 (by kernel_rfl) rfl
              have v24 : aq.tmps[24]? = some (.int .u32 (p.a : Int)) := hf.val 4 24 (by kernel_rfl) rfl
              have v26 : aq.tmps[26]? = some (.int .u32 (q.a : Int)) := hf.val 6 26 (by kernel_rfl) rfl
              clear hf
              refine wpOp_flow rfl (wanted_of rfl rfl v22) (fun Kq hK => ?_)
              have hx := HX1.out
              go_simp
              exact hK _ _ ⟨rfl, hSW⟩
            | 8, _ =>
              intro aq W hSW hf
              have v5 : aq.tmps[5]? = some (.int .i64 M) := (hf.at_base 5 (by kernel_rfl)).trans rfl
              have v22 : aq.tmps[22]? = some (.bool true) := hf.val 2 22 (by kernel_rfl) rfl
              clear hf
              refine wpOp_flow rfl (wanted_of rfl rfl v22) (fun Kq hK => ?_)
              go_simp
              exact hK _ _ ⟨rfl, hSW⟩
            | 9, _ =>
              intro aq W hSW hf
              have v22 : aq.tmps[22]? = some (.bool true) := hf.val 2 22 (by kernel_rfl) rfl
              have v28 : aq.tmps[28]? = some (.int .i64 M) := hf.val 8 28 (by kernel_rfl) rfl
              clear hf
              refine wpOp_flow rfl (wanted_of rfl rfl v22) (fun Kq hK => ?_)
              go_simp
              refine (mask_any _ _).mono ?_
              rintro e w19 ⟨rfl, rfl⟩
              exact hK _ _ ⟨rfl, hSW⟩
            | 10, _ =>
              intro aq W hSW hf
              have v22 : aq.tmps[22]? = some (.bool true) := hf.val 2 22 (by kernel_rfl) rfl
              have v27 : aq.tmps[27]? = some (.int .u32 ((p.a ^^^ q.a : Nat) : Int)) := hf.val 7 27 (by kernel_rfl) rfl
              have v29 : aq.tmps[29]? = some (.int .u32 (maskN M : Nat)) := hf.val 9 29 (by kernel_rfl) rfl
              clear hf
              refine wpOp_flow rfl (wanted_of rfl rfl v22) (fun Kq hK => ?_)
              have hx := HX2.out M
              go_simp
              exact hK _ _ ⟨rfl, hSW⟩
            | 11, _ =>
              intro aq W hSW hf
              have v22 : aq.tmps[22]? = some (.bool true) := hf.val 2 22 (by kernel_rfl) rfl
              have v30 : aq.tmps[30]? = some (.int .u32 (((p.a ^^^ q.a) &&& maskN M : Nat) : Int)) := hf.val 10 30 (by kernel_rfl) rfl
              clear hf
              refine wpOp_flow rfl (wanted_of rfl rfl v22) (fun Kq hK => ?_)
              have hb := HBV.out.symm
              go_simp
              exact hK _ _ ⟨rfl, hSW⟩
            | 12, _ =>
              intro aq W hSW hf
              have v22 : aq.tmps[22]? = some (.bool true) := hf.val 2 22 (by kernel_rfl) rfl
              have v31 : aq.tmps[31]? = some (.bool bv) := hf.val 11 31 (by kernel_rfl) rfl
              clear hf
              refine wpOp_flow rfl (by rfl) (fun Kq hK => ?_)
              go_simp
              exact hK _ _ ⟨rfl, hSW⟩
            | kq + 13, hk => exact absurd hk (by first | omega | (intro h; simp at h; omega))
          · simp only [puts, Act.put, List.setIfInBounds_toArray, List.set_cons_zero, List.set_cons_succ]
            have HB5 := hidp (HB4.out.trans (hSW.mono HB4.out.size))
            have c0 := C0.out W hSW
            clear hSW
            cases bv with
            | false =>
              have HFIN : Hid (Ending.returned (Value.agg (normF p.a M).cells.toArray) = .returned (normF p.a (cnF p.a q.a (m + 1) : Nat)).val) := by
                have hb := HBV.out
                rw [HM.out] at hb ⊢
                rw [cnF, if_pos (by simpa using hb.symm)]
                rfl
              go_wp2_with (first
                | (go_at_call 83; refine (norm_any _ hp _ _).mono ?_; rintro e w9 ⟨rfl, B9⟩
                   have HB9 := hidp (HB5.out.trans (B9.mono HB5.out.size))
                   have Z := hidp (heap_below HB9.out K2.out (ltOf K2.out))
                   clear B9)
                | (with_reducible refine wpList_store_row rfl 44 (.tmp 4) (.tmp 38) rfl (w.heap.size + 1 + 1) (normF p.a M).cells.toArray rfl rfl 44 _ Z.out info44n rfl pf_one ?_))
              refine bodyPost_ret (results_pf rfl _ _ (w.heap.size + 1 + 1) _ rfl rfl (setRow_heap _ _ _ _ _ _ Z.out)) rfl ?_
              exact ⟨by rw [← HCN.out]; exact HFIN.out, below_setRow (HB.out.trans (HB9.out.mono HB.out.size)) _ (by omega) _⟩
            | true =>
              have HNX : Hid (cnF p.a q.a (m + 1) = cnF p.a q.a m) := by
                have hb := HBV.out
                rw [HM.out] at hb
                rw [cnF]
                exact if_neg fun h => by rw [h] at hb; exact absurd hb (by decide)
              have hsub : wrap64 (M - 1) = (m : Int) := by
                have h1 := HN0.out
                have h2 := HM.out
                have h3 := HMK.out
                simp only [wrap64]
                omega
              have HSUB := hidp hsub
              clear hsub
              go_wp2
              go_roundg m
              case measure => have h1 := HMG.out; omega
              case rel => exact ⟨m, Nat.le_refl _, Nat.le_of_succ_le HMK.out, by rw [HSUB.out], HNX.out.symm.trans HCN.out, HB5.out⟩
end Go.Proofs.Ytnenpfalhbbadaa
