/- When two cursors are told to be the same: all fields like, their lists of like numbers. -/
import Derived.Test.YtkmhdffkganhaaaLawBounds
namespace Go.Proofs.Ytkmhdffkganhaaa
open Go.RowKit

def U32s (ys : List Int) : List Value := ys.map (Value.int .u32)
theorem nth_u32 {w : World} {ad : Addr} {ys : List Int} {j : Nat} (h : ∀ j u, (U32s ys)[j]? = some u → w.cell? (ad.add j) = some u) (hj : j < ys.length) : w.cell? (ad.add j) = some (.int .u32 ys[j]) :=
  h j _ (by simp [U32s, hj])

set_option maxHeartbeats 1000000 in
theorem nums_yes (a a' : Option Addr) (n c c' : Nat) (ys : List Int) (w : World) (h : SrcV w a n (U32s ys)) (h' : SrcV w a' n (U32s ys)) (hn : n ≤ 1000) :
    Calls Try.prog 39 #[.slice a n c, .slice a' n c'] w fun e w' => e = .returned (.bool true) ∧ Below w.heap.size w w' := by
  have hl : ys.length = n := by have := h.1; simpa [U32s] using this
  have H := hidp (And.intro h.2.2 h'.2.2)
  have HL := hidp hl
  clear h h' hl
  go_enter Try.func39, Try.ntmps39
  go_wp2
  go_loopw [5] (fun i wr => ∃ j : Nat, j ≤ n ∧ i = .int .i64 j ∧ Below w.heap.size w wr) (fun i _ => n - (intOf i).toNat)
  case atStart => exact ⟨0, by omega, rfl, Below.refl _ _⟩
  case round =>
    obtain ⟨j, hj, rfl, hB⟩ := hrel
    by_cases hlt : j < n
    · obtain ⟨ad, rfl, h1⟩ := H.out.1 (by omega)
      obtain ⟨ad', rfl, h2⟩ := H.out.2 (by omega)
      have hjl : j < ys.length := by rw [HL.out]; exact hlt
      have d1 := below_cell hB (Nat.le_refl _) _ _ (nth_u32 h1 hjl)
      have d2 := below_cell hB (Nat.le_refl _) _ _ (nth_u32 h2 hjl)
      have l1 : (j : Int) < (n : Int) := by omega
      generalize ys[j] = y at d1 d2
      clear h1 h2
      go_wp2
      go_quiet (fail)
      go_wp2
      go_roundw
      case rel => exact ⟨j + 1, by omega, by go_num, below_drewN hB _⟩
      case measure => simp [intOf]; omega
    · have l1 : ¬ (j : Int) < (n : Int) := by omega
      go_wp2
      go_ret
      exact ⟨rfl, hB⟩

def Cur.withC (c : Cur) (a : Option Addr) (cc : Nat) : Cur := { c with ca := a, cc := cc }
theorem eq29 (x y : Int) (w : World) : (Op.equalIn 10000 29 (.agg #[.int .u32 x, .int .i64 y]) (.agg #[.int .u32 x, .int .i64 y])).run Try.prog w = .ok true w := by
  have u3 := Try.underlying3
  have a3 := Try.isAgg3
  have z3 := Try.sizeOf3
  have u27 := Try.underlying27
  have a27 := Try.isAgg27
  have z27 := Try.sizeOf27
  rw [show (10000 : Nat) = 9999 + 1 from rfl, Op.equalIn]
  simp only [Sem.run_bind, run_underlying Try.underlying29, Result.andThen_ok]
  go_simp
def qarr (c : Cur) (a : Option Addr) (cc : Nat) : Array Value := #[.int .i64 c.kind, .int .i64 c.mode, .int .u32 c.pa, .int .i64 c.pl, .int .i64 c.tab, .int .i64 c.peer, .string c.rx, .slice a c.cl cc, .int .i64 c.cur, .bool c.out]
def carr (c : Cur) (a : Option Addr) (cc : Nat) : Array Value := #[.int .i64 c.id, .int .i64 c.owner, .int .i64 c.ver, .int .i64 c.kind, .int .i64 c.mode, .int .u32 c.pa, .int .i64 c.pl, .int .i64 c.tab, .int .i64 c.peer, .string c.rx, .slice a c.cl cc, .int .i64 c.cur, .bool c.out, .int .u32 c.aa, .int .i64 c.al, .int .i64 c.age]

set_option maxHeartbeats 2000000 in
theorem qsame_yes (c : Cur) (a a' : Option Addr) (cc cc' : Nat) (ys : List Int) (w : World) (h : SrcV w a c.cl (U32s ys)) (h' : SrcV w a' c.cl (U32s ys)) (hn : c.cl ≤ 1000) :
    Calls Try.prog 35 #[.agg (qarr c a cc), .agg (qarr c a' cc')] w fun e w' => e = .returned (.bool true) ∧ Below w.heap.size w w' := by
  have heq := eq29
  obtain ⟨cid, cow, cve, kind, mode, pa, pl, tab, peer, rx, ca, cl, c3, cur, out, aa, al, age⟩ := c
  unfold qarr
  dsimp only at h h' hn ⊢
  have hB := ((Below.refl w.heap.size w).alloc (Nat.le_refl _) (.cells #[.int .i64 kind, .int .i64 mode, .int .u32 pa, .int .i64 pl, .int .i64 tab, .int .i64 peer, .string rx, .slice a cl cc, .int .i64 cur, .bool out] 32)).alloc (by simp) (.cells #[.int .i64 kind, .int .i64 mode, .int .u32 pa, .int .i64 pl, .int .i64 tab, .int .i64 peer, .string rx, .slice a' cl cc', .int .i64 cur, .bool out] 32)
  have H := hidp (And.intro (h.below hB) (h'.below hB))
  have HB := hidp hB
  clear h h' hB
  go_enter Try.func35, Try.ntmps35
  go_wp2_with fail
  refine (nums_yes a a' cl cc cc' ys _ H.out.1 H.out.2 hn).mono ?_
  rintro e w1 ⟨rfl, B1⟩
  have k0 := heap_below B1 (heap_alloc_old' _ (.cells #[.int .i64 kind, .int .i64 mode, .int .u32 pa, .int .i64 pl, .int .i64 tab, .int .i64 peer, .string rx, .slice a' cl cc', .int .i64 cur, .bool out] 32) (heap_alloc_new w (.cells #[.int .i64 kind, .int .i64 mode, .int .u32 pa, .int .i64 pl, .int .i64 tab, .int .i64 peer, .string rx, .slice a cl cc, .int .i64 cur, .bool out] 32))) (by simp; omega)
  have k1 : w1.heap[w.heap.size + 1]? = _ := heap_below B1 (by simpa using heap_alloc_new (w.alloc (.cells #[.int .i64 kind, .int .i64 mode, .int .u32 pa, .int .i64 pl, .int .i64 tab, .int .i64 peer, .string rx, .slice a cl cc, .int .i64 cur, .bool out] 32)) (.cells #[.int .i64 kind, .int .i64 mode, .int .u32 pa, .int .i64 pl, .int .i64 tab, .int .i64 peer, .string rx, .slice a' cl cc', .int .i64 cur, .bool out] 32)) (by simp)
  have p0 : w1.cell? ⟨w.heap.size, 0, none⟩ = some (.int .i64 kind) := cellOf k0 0 rfl
  have q0 : w1.cell? ⟨w.heap.size + 1, 0, none⟩ = some (.int .i64 kind) := cellOf k1 0 rfl
  have p1 : w1.cell? ⟨w.heap.size, 1, none⟩ = some (.int .i64 mode) := cellOf k0 1 rfl
  have q1 : w1.cell? ⟨w.heap.size + 1, 1, none⟩ = some (.int .i64 mode) := cellOf k1 1 rfl
  have p2 : w1.cell? ⟨w.heap.size, 2, none⟩ = some (.int .u32 pa) := cellOf k0 2 rfl
  have q2 : w1.cell? ⟨w.heap.size + 1, 2, none⟩ = some (.int .u32 pa) := cellOf k1 2 rfl
  have p3 : w1.cell? ⟨w.heap.size, 3, none⟩ = some (.int .i64 pl) := cellOf k0 3 rfl
  have q3 : w1.cell? ⟨w.heap.size + 1, 3, none⟩ = some (.int .i64 pl) := cellOf k1 3 rfl
  have p4 : w1.cell? ⟨w.heap.size, 4, none⟩ = some (.int .i64 tab) := cellOf k0 4 rfl
  have q4 : w1.cell? ⟨w.heap.size + 1, 4, none⟩ = some (.int .i64 tab) := cellOf k1 4 rfl
  have p5 : w1.cell? ⟨w.heap.size, 5, none⟩ = some (.int .i64 peer) := cellOf k0 5 rfl
  have q5 : w1.cell? ⟨w.heap.size + 1, 5, none⟩ = some (.int .i64 peer) := cellOf k1 5 rfl
  have p6 : w1.cell? ⟨w.heap.size, 6, none⟩ = some (.string rx) := cellOf k0 6 rfl
  have q6 : w1.cell? ⟨w.heap.size + 1, 6, none⟩ = some (.string rx) := cellOf k1 6 rfl
  have p8 : w1.cell? ⟨w.heap.size, 8, none⟩ = some (.int .i64 cur) := cellOf k0 8 rfl
  have q8 : w1.cell? ⟨w.heap.size + 1, 8, none⟩ = some (.int .i64 cur) := cellOf k1 8 rfl
  have p9 : w1.cell? ⟨w.heap.size, 9, none⟩ = some (.bool out) := cellOf k0 9 rfl
  have q9 : w1.cell? ⟨w.heap.size + 1, 9, none⟩ = some (.bool out) := cellOf k1 9 rfl
  have HB1 := hidp (HB.out.trans (B1.mono HB.out.size))
  clear k0 k1 B1
  go_wp2
  go_ret
  exact ⟨rfl, HB1.out⟩

set_option maxHeartbeats 4000000 in
theorem csame_yes (c : Cur) (a a' : Option Addr) (cc cc' : Nat) (ys : List Int) (w : World) (h : SrcV w a c.cl (U32s ys)) (h' : SrcV w a' c.cl (U32s ys)) (hn : c.cl ≤ 1000) :
    Calls Try.prog 22 #[.agg (carr c a cc), .agg (carr c a' cc')] w fun e w' => e = .returned (.bool true) ∧ Below w.heap.size w w' := by
  have heq := eq29
  have hca : (carr c a cc).size = 16 := rfl
  have hca' : (carr c a' cc').size = 16 := rfl
  have hB := ((Below.refl w.heap.size w).alloc (Nat.le_refl _) (.cells (carr c a cc) 53)).alloc (by simp) (.cells (carr c a' cc') 53)
  have H := hidp (And.intro (h.below hB) (h'.below hB))
  have HB := hidp hB
  have k0 : ((w.alloc (.cells (carr c a cc) 53)).alloc (.cells (carr c a' cc') 53)).heap[w.heap.size]? = some (.cells (carr c a cc) 53 (0, 0)) := heap_alloc_old' _ _ (heap_alloc_new w _)
  have k1 : ((w.alloc (.cells (carr c a cc) 53)).alloc (.cells (carr c a' cc') 53)).heap[w.heap.size + 1]? = some (.cells (carr c a' cc') 53 (0, 0)) := by
    have := heap_alloc_new (w.alloc (.cells (carr c a cc) 53)) (.cells (carr c a' cc') 53)
    simpa using this
  have K0 := hidp k0
  have K1 := hidp k1
  clear h h' hB
  have p0 : ((w.alloc (.cells (carr c a cc) 53)).alloc (.cells (carr c a' cc') 53)).cell? ⟨w.heap.size, 0, none⟩ = some (.int .i64 c.id) := cellOf k0 0 rfl
  have q0 : ((w.alloc (.cells (carr c a cc) 53)).alloc (.cells (carr c a' cc') 53)).cell? ⟨w.heap.size + 1, 0, none⟩ = some (.int .i64 c.id) := cellOf k1 0 rfl
  have p1 : ((w.alloc (.cells (carr c a cc) 53)).alloc (.cells (carr c a' cc') 53)).cell? ⟨w.heap.size, 1, none⟩ = some (.int .i64 c.owner) := cellOf k0 1 rfl
  have q1 : ((w.alloc (.cells (carr c a cc) 53)).alloc (.cells (carr c a' cc') 53)).cell? ⟨w.heap.size + 1, 1, none⟩ = some (.int .i64 c.owner) := cellOf k1 1 rfl
  have p2 : ((w.alloc (.cells (carr c a cc) 53)).alloc (.cells (carr c a' cc') 53)).cell? ⟨w.heap.size, 2, none⟩ = some (.int .i64 c.ver) := cellOf k0 2 rfl
  have q2 : ((w.alloc (.cells (carr c a cc) 53)).alloc (.cells (carr c a' cc') 53)).cell? ⟨w.heap.size + 1, 2, none⟩ = some (.int .i64 c.ver) := cellOf k1 2 rfl
  have R0 : Hid (((w.alloc (.cells (carr c a cc) 53)).alloc (.cells (carr c a' cc') 53)).rangeAt w.heap.size 3 (qarr c a cc).toList) := by
    have h0 : ((w.alloc (.cells (carr c a cc) 53)).alloc (.cells (carr c a' cc') 53)).rangeAt w.heap.size 0 (carr c a cc).toList := fun i v hv => by rw [Nat.zero_add]; exact cellOf k0 i (by simpa using hv)
    have := range_sub (n := 10) (k := 3) (sub := (qarr c a cc).toList) h0 rfl
    rwa [Nat.zero_add] at this
  have R1 : Hid (((w.alloc (.cells (carr c a cc) 53)).alloc (.cells (carr c a' cc') 53)).rangeAt (w.heap.size + 1) 3 (qarr c a' cc').toList) := by
    have h0 : ((w.alloc (.cells (carr c a cc) 53)).alloc (.cells (carr c a' cc') 53)).rangeAt (w.heap.size + 1) 0 (carr c a' cc').toList := fun i v hv => by rw [Nat.zero_add]; exact cellOf k1 i (by simpa using hv)
    have := range_sub (n := 10) (k := 3) (sub := (qarr c a' cc').toList) h0 rfl
    rwa [Nat.zero_add] at this
  have hi : Hid ((Try.prog.info? 32).map (·.size) = some (qarr c a cc).toList.length) := Try.info32
  have hi' : Hid ((Try.prog.info? 32).map (·.size) = some (qarr c a' cc').toList.length) := Try.info32
  clear k0 k1
  go_enter Try.func22, Try.ntmps22
  go_wp2_with (first
    | (with_reducible refine wpList_load_mid rfl 32 (.tmp 25) rfl w.heap.size 3 rfl (qarr c a cc).toList _ R0.out Try.underlying32 rfl hi.out ?_)
    | (with_reducible refine wpList_load_mid rfl 32 (.tmp 27) rfl (w.heap.size + 1) 3 rfl (qarr c a' cc').toList _ R1.out Try.underlying32 rfl hi'.out ?_))
  refine (qsame_yes c a a' cc cc' ys _ H.out.1 H.out.2 hn).mono ?_
  rintro e w1 ⟨rfl, B1⟩
  have j0 := heap_below B1 K0.out (by simp; omega)
  have j1 := heap_below B1 K1.out (by simp)
  have s13 : w1.cell? ⟨w.heap.size, 13, none⟩ = some (.int .u32 c.aa) := cellOf j0 13 rfl
  have t13 : w1.cell? ⟨w.heap.size + 1, 13, none⟩ = some (.int .u32 c.aa) := cellOf j1 13 rfl
  have s14 : w1.cell? ⟨w.heap.size, 14, none⟩ = some (.int .i64 c.al) := cellOf j0 14 rfl
  have t14 : w1.cell? ⟨w.heap.size + 1, 14, none⟩ = some (.int .i64 c.al) := cellOf j1 14 rfl
  have s15 : w1.cell? ⟨w.heap.size, 15, none⟩ = some (.int .i64 c.age) := cellOf j0 15 rfl
  have t15 : w1.cell? ⟨w.heap.size + 1, 15, none⟩ = some (.int .i64 c.age) := cellOf j1 15 rfl
  have HB1 := hidp (HB.out.trans (B1.mono HB.out.size))
  clear j0 j1 B1 p0 p1 p2 q0 q1 q2
  go_wp2
  go_ret
  exact ⟨rfl, HB1.out⟩
end Go.Proofs.Ytkmhdffkganhaaa
