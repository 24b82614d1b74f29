/- Prefixes are sorted, cloned. -/
import Derived.Test.YtnenpfalhbbadaaPS
import Derived.Test.YtnenpfalhbbadaaKF
import Derived.Test.YtnenpfalhbbadaaPW
namespace Go.Proofs.Ytnenpfalhbbadaa
open Go.RowKit
open Go.Sort (HoldsK grow alloc_eq_grow grow_grow SWO PermIn SortedIn)

set_option maxHeartbeats 1000000 in
theorem cmp_world (p q : Pf) (w Wd : World) (hWd : Wd = (w.alloc (.cells #[.int .u32 (p.a : Int), .int .i64 p.l] 44)).alloc (.cells #[.int .u32 (q.a : Int), .int .i64 q.l] 44)) : Calls Try.prog 47 #[p.val, q.val] w fun e w' => e = .returned (.int .i64 (cmpF p q)) ∧ w' = Wd := by
  have hB := ((Below.refl w.heap.size w).alloc (Nat.le_refl _) (.cells #[.int .u32 (p.a : Int), .int .i64 p.l] 44)).alloc (by simp) (.cells #[.int .u32 (q.a : Int), .int .i64 q.l] 44)
  have k0 : ((w.alloc (.cells #[.int .u32 (p.a : Int), .int .i64 p.l] 44)).alloc (.cells #[.int .u32 (q.a : Int), .int .i64 q.l] 44)).heap[w.heap.size]? = some (.cells #[.int .u32 (p.a : Int), .int .i64 p.l] 44 (0, 0)) := heap_alloc_at (heap_alloc_new w _) _
  have k1 : ((w.alloc (.cells #[.int .u32 (p.a : Int), .int .i64 p.l] 44)).alloc (.cells #[.int .u32 (q.a : Int), .int .i64 q.l] 44)).heap[w.heap.size + 1]? = some (.cells #[.int .u32 (q.a : Int), .int .i64 q.l] 44 (0, 0)) := heap_alloc_top _ _ _ (by simp)
  have c0 := cellOf k0 0 (v := .int .u32 (p.a : Int)) rfl
  have c1 := cellOf k0 1 (v := .int .i64 p.l) rfl
  have d0 := cellOf k1 0 (v := .int .u32 (q.a : Int)) rfl
  have d1 := cellOf k1 1 (v := .int .i64 q.l) rfl
  have HB := hidp hWd
  clear hWd
  have heq := eq44
  clear hB k0 k1
  have hpv : p.val = .agg #[.int .u32 (p.a : Int), .int .i64 p.l] := rfl
  have hqv : q.val = .agg #[.int .u32 (q.a : Int), .int .i64 q.l] := rfl
  rw [hpv, hqv]
  clear hpv hqv
  rcases Nat.lt_trichotomy p.a q.a with h | h | h
  · have hc : cmpF p q = -1 := by unfold cmpF; rw [if_pos (.inl h)]
    rw [hc]
    have l1 : decide ((p.a : Int) < (q.a : Int)) = true := by simpa using h
    clear hc h
    generalize (p.a : Int) = x at *
    generalize (q.a : Int) = y at *
    generalize p.l = m at *
    generalize q.l = n at *
    go_enter Try.func47, Try.ntmps47
    go_upto_region 1 with (fail)
    generalize (w.alloc (.cells #[.int .u32 x, .int .i64 m] 44)).alloc (.cells #[.int .u32 y, .int .i64 n] 44) = w0 at *
    go_wp2
    go_ret
    exact ⟨rfl, HB.out.symm⟩
  · rcases Int.lt_trichotomy p.l q.l with h2 | h2 | h2
    · have hc : cmpF p q = -1 := by unfold cmpF; rw [if_pos (.inr ⟨h, h2⟩)]
      rw [hc]
      have l1 : decide ((p.a : Int) < (q.a : Int)) = false := by simp; omega
      have l2 : ((p.a : Int) == (q.a : Int)) = true := by simp [h]
      have l3 : decide (p.l < q.l) = true := by simpa using h2
      clear hc h h2
      generalize (p.a : Int) = x at *
      generalize (q.a : Int) = y at *
      generalize p.l = m at *
      generalize q.l = n at *
      go_enter Try.func47, Try.ntmps47
      go_upto_region 1 with (fail)
      generalize (w.alloc (.cells #[.int .u32 x, .int .i64 m] 44)).alloc (.cells #[.int .u32 y, .int .i64 n] 44) = w0 at *
      go_wp2
      go_ret
      exact ⟨rfl, HB.out.symm⟩
    · have hc : cmpF p q = 0 := by unfold cmpF; rw [if_neg (by omega), if_pos ⟨h, h2⟩]
      rw [hc]
      have l1 : decide ((p.a : Int) < (q.a : Int)) = false := by simp; omega
      have l2 : ((p.a : Int) == (q.a : Int)) = true := by simp [h]
      have l3 : decide (p.l < q.l) = false := by simp; omega
      have l4 : (p.l == q.l) = true := by simp [h2]
      clear hc h h2
      generalize (p.a : Int) = x at *
      generalize (q.a : Int) = y at *
      generalize p.l = m at *
      generalize q.l = n at *
      go_enter Try.func47, Try.ntmps47
      go_upto_region 1 with (fail)
      generalize (w.alloc (.cells #[.int .u32 x, .int .i64 m] 44)).alloc (.cells #[.int .u32 y, .int .i64 n] 44) = w0 at *
      go_wp2
      go_ret
      exact ⟨rfl, HB.out.symm⟩
    · have hc : cmpF p q = 1 := by unfold cmpF; rw [if_neg (by omega), if_neg (by omega)]
      rw [hc]
      have l1 : decide ((p.a : Int) < (q.a : Int)) = false := by simp; omega
      have l2 : ((p.a : Int) == (q.a : Int)) = true := by simp [h]
      have l3 : decide (p.l < q.l) = false := by simp; omega
      have l4 : (p.l == q.l) = false := by simp; omega
      clear hc h h2
      generalize (p.a : Int) = x at *
      generalize (q.a : Int) = y at *
      generalize p.l = m at *
      generalize q.l = n at *
      go_enter Try.func47, Try.ntmps47
      go_upto_region 1 with (fail)
      generalize (w.alloc (.cells #[.int .u32 x, .int .i64 m] 44)).alloc (.cells #[.int .u32 y, .int .i64 n] 44) = w0 at *
      go_wp2
      go_ret
      exact ⟨rfl, HB.out.symm⟩
  · have hc : cmpF p q = 1 := by unfold cmpF; rw [if_neg (by omega), if_neg (by omega)]
    rw [hc]
    have l1 : decide ((p.a : Int) < (q.a : Int)) = false := by simp; omega
    have l2 : ((p.a : Int) == (q.a : Int)) = false := by simp; omega
    clear hc h
    generalize (p.a : Int) = x at *
    generalize (q.a : Int) = y at *
    generalize p.l = m at *
    generalize q.l = n at *
    go_enter Try.func47, Try.ntmps47
    go_upto_region 1 with (fail)
    generalize (w.alloc (.cells #[.int .u32 x, .int .i64 m] 44)).alloc (.cells #[.int .u32 y, .int .i64 n] 44) = w0 at *
    go_wp2
    go_ret
    exact ⟨rfl, HB.out.symm⟩


theorem cmp_lays (blk off size : Nat) (w : World) : CmpLays Try.prog 47 #[] Pf.cells 2 cmpF blk off size w :=
  fun m os dk _ x y => (cmp_world x y _ _ rfl).mono fun _ _ ⟨h1, h2⟩ => ⟨h1, 0, _, h2.trans (by rw [alloc_eq_grow, alloc_eq_grow, grow_grow]; rfl)⟩
theorem cmp_lt (x y : Pf) : Go.Proofs.ltOf cmpF x y = true ↔ x.a < y.a ∨ x.a = y.a ∧ x.l < y.l := by
  unfold Go.Proofs.ltOf cmpF
  simp only [decide_eq_true_eq]
  split
  · rename_i h
    simp [h]
  · rename_i h
    split
    · rename_i h2
      simp; omega
    · simp; omega
theorem cmp_nlt (x y : Pf) : Go.Proofs.ltOf cmpF x y = false ↔ ¬ (x.a < y.a ∨ x.a = y.a ∧ x.l < y.l) := by
  rw [← cmp_lt]
  simp
theorem cmp_swo : SWO (Go.Proofs.ltOf cmpF) where
  irrefl x := by rw [cmp_nlt]; omega
  trans x y z h1 h2 := by rw [cmp_lt] at *; omega
  ntrans x y z h1 h2 := by rw [cmp_nlt] at *; omega
theorem cmp_tot (x y : Pf) (h1 : Go.Proofs.ltOf cmpF x y = false) (h2 : Go.Proofs.ltOf cmpF y x = false) : x = y := by
  rw [cmp_nlt] at h1 h2
  cases x; cases y
  simp at h1 h2 ⊢
  omega
/-- prefixes in order -/
def sortP (l : List Pf) : List Pf := l.mergeSort fun x y => !(Go.Proofs.ltOf cmpF) y x
theorem sort_any (blk off cap : Nat) (d : Array Pf) (w : World) (hH : HoldsK Pf.cells 2 w blk off d) (hblk : blk < w.heap.size) (hsz : d.size < 4611686018427387904) :
    Calls Try.prog 46 #[.slice (some ⟨blk, off, none⟩) d.size cap, .func (.func 47) #[] #[]] w fun e w' => e = .returned (.tuple #[]) ∧ ∃ n os, w' = sortWorldK Pf.cells 2 w blk off n (sortP d.toList).toArray os :=
  AnyQ.slices_SortFunc_total Try.lays46 2 Try.isAgg44 Try.sizeOf44 Pf.cells (fun _ => rfl) (fun x v hv => by simp [Pf.cells] at hv; rcases hv with rfl | rfl <;> rfl) cmpF cmp_swo 47 #[] blk off cap d w (enters_of Try.func47 (by kernel_rfl) rfl) (cmp_lays blk off d.size w) hH hblk hsz cmp_tot
theorem sort_none (c : Nat) (a : Option Addr) (fv : Value) (w : World) : Calls Try.prog 46 #[.slice a 0 c, fv] w fun e w' => e = .returned (.tuple #[]) ∧ w' = w :=
  AnyF.slices_SortFunc_none Try.lays46 a c fv w
end Go.Proofs.Ytnenpfalhbbadaa
