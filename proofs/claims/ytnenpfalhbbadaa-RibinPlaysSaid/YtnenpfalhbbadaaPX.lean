/- slices.Compact of prefixes: the walk. -/
import Derived.Test.YtnenpfalhbbadaaPW
import Derived.Test.YtnenpfalhbbadaaPT
namespace Go.Proofs.Ytnenpfalhbbadaa
open Go.RowKit
open Go.Sort (HoldsK putRowK flatK setMany get_setMany size_setMany size_flatK get_flatK blk_iff ext_get! setCells_putRow holdsK_ahead holdsK_putRowK putRowK_self)
open Go.Lib (compactUpTo keeps CompInv compactUpTo_all range_map_get keeps_lt_one keeps_pos keeps_neg)

theorem zval44 (w : World) : (zeroValue 44).run Try.prog w = .ok (Pf.val ⟨0, 0⟩) w := by kernel_rfl
theorem pcell0 {w : World} {blk off : Nat} {d : Array Pf} (h : HoldsK Pf.cells 2 w blk off d) {i : Nat} (hi : i < d.size) : w.cell? ⟨blk, off + i * 2, none⟩ = some (.int .u32 (d[i]!.a : Int)) ∧ w.frozen? ⟨blk, off + i * 2, none⟩ = false := h.cell hi (c := 0) (by decide)
theorem pcell1 {w : World} {blk off : Nat} {d : Array Pf} (h : HoldsK Pf.cells 2 w blk off d) {i : Nat} (hi : i < d.size) : w.cell? ⟨blk, off + i * 2 + 1, none⟩ = some (.int .i64 d[i]!.l) ∧ w.frozen? ⟨blk, off + i * 2 + 1, none⟩ = false := h.cell hi (c := 1) (by decide)
theorem pcells {w : World} {blk off : Nat} {d : Array Pf} (h : HoldsK Pf.cells 2 w blk off d) {j : Nat} (hj : j < d.size * 2) : (w.cell? ⟨blk, off + j, none⟩).isSome = true ∧ w.frozen? ⟨blk, off + j, none⟩ = false := by
  have := h j (by simpa using hj)
  rw [this.1]
  exact ⟨rfl, this.2⟩
theorem equal44 (x y : Pf) (w : World) : (Op.equalIn 10000 44 (.agg #[.int .u32 (x.a : Int), .int .i64 x.l]) (.agg #[.int .u32 (y.a : Int), .int .i64 y.l])).run Try.prog w = .ok (decide (x = y)) w := by
  rw [eq44]
  congr 1
  by_cases h : x = y
  · subst h; simp
  · have : ¬ (x.a = y.a ∧ x.l = y.l) := fun ⟨h1, h2⟩ => h (by cases x; cases y; simp_all)
    simp [h]
    intro h1
    by_cases h2 : x.l = y.l
    · exact absurd ⟨by omega, h2⟩ this
    · exact h2
theorem done_two {w wr : World} {q blk off : Nat} {d dk : Array Pf} {k : Nat} (hw : wr = putRowK Pf.cells 2 (Sort.ahead w q) blk off dk) (hI : CompInv d d.size k dk) :
    wr.setCells blk (off + k * 2) ((List.replicate (d.size - k) (⟨0, 0⟩ : Pf)).flatMap Pf.cells) = putRowK Pf.cells 2 (Sort.ahead w q) blk off (compactUpTo d d.size ++ List.replicate (d.size - k) (⟨0, 0⟩ : Pf)).toArray := by
  subst hw
  have hk := hI.lt
  have hs := hI.size
  have hlen : ((List.replicate (d.size - k) (⟨0, 0⟩ : Pf)).flatMap Pf.cells).length = (d.size - k) * 2 := by
    generalize d.size - k = n
    induction n with
    | zero => rfl
    | succ m ih => rw [List.replicate_succ, List.flatMap_cons, List.length_append, ih, show (Pf.cells ⟨0, 0⟩).length = 2 from rfl]; omega
  have h := setCells_putRow (Sort.ahead w q) blk off ((List.replicate (d.size - k) (⟨0, 0⟩ : Pf)).flatMap Pf.cells) (k * 2) (flatK Pf.cells 2 dk) (by rw [hlen, size_flatK]; omega)
  rw [setMany_lay _ dk k (by simp; omega), hI.done ⟨0, 0⟩] at h
  exact h

set_option maxHeartbeats 4000000 in
set_option maxRecDepth 1000000 in
theorem compact_any (blk off cap : Nat) (d : Array Pf) (w : World) (hH : HoldsK Pf.cells 2 w blk off d) (hsz : d.size ≤ 4000) (hcap : d.size ≤ cap) (hcp : cap ≤ 9223372036854775807) :
    Calls Try.prog 48 #[.slice (some ⟨blk, off, none⟩) d.size cap] w fun e w' => e = .returned (.slice (some ⟨blk, off, none⟩) (compactUpTo d d.size).length cap) ∧ ∃ q, w' = putRowK Pf.cells 2 (Sort.ahead w q) blk off (compactUpTo d d.size ++ List.replicate (d.size - (compactUpTo d d.size).length) (⟨0, 0⟩ : Pf)).toArray := by
  have same : ∀ q, (∀ j, j < d.size → keeps d j = true) → (compactUpTo d d.size).length = d.size ∧ w.drewN q = putRowK Pf.cells 2 (Sort.ahead w q) blk off (compactUpTo d d.size ++ List.replicate (d.size - (compactUpTo d d.size).length) (⟨0, 0⟩ : Pf)).toArray := by
    intro q hall
    have e : compactUpTo d d.size = d.toList := by rw [compactUpTo_all d _ hall, range_map_get]
    rw [e]
    refine ⟨by simp, ?_⟩
    simp only [Array.length_toList, Nat.sub_self, List.replicate_zero, List.append_nil, Array.toArray_toList]
    exact (putRowK_self Pf.cells 2 (Sort.ahead w q) blk off d (holdsK_ahead Pf.cells 2 w q blk off d hH)).symm
  have HS := hidp same
  clear same
  by_cases h2 : d.size < 2
  · have HH := hidp hH
    clear hH
    go_enter Try.func48, Try.ntmps48
    go_wp2
    go_ret
    obtain ⟨e1, e2⟩ := HS.out 0 (fun j hj => keeps_lt_one d j (by omega))
    exact ⟨by rw [e1]; rfl, 0, e2⟩
  · have HH := hidp hH
    clear hH
    go_enter Try.func48, Try.ntmps48
    go_wp2
    go_loopg [3] d.size (fun g s3 wr => ∃ k q : Nat, 1 ≤ k ∧ k ≤ d.size ∧ d.size - k ≤ g ∧ s3 = .int .i64 k ∧ wr = w.drewN q ∧ ∀ j, j < k → keeps d j = true)
    case atStart => exact ⟨1, 0, Nat.le_refl _, by omega, by omega, rfl, rfl, keeps_lt_one d⟩
    case round =>
      obtain ⟨k, q, hk1, hk, hg, rfl, rfl, hall⟩ := hrel
      by_cases hlt : k < d.size
      · obtain ⟨c1, -⟩ := pcell0 HH.out hlt
        obtain ⟨d1, -⟩ := pcell1 HH.out hlt
        obtain ⟨c0, -⟩ := pcell0 HH.out (i := k - 1) (by omega)
        obtain ⟨d0, -⟩ := pcell1 HH.out (i := k - 1) (by omega)
        have A := hidp hall
        clear hall
        have B := hidp (keeps_pos (d := d) (m := k))
        have B2 := hidp (keeps_neg (d := d) (m := k) (by omega))
        generalize d[k]! = x at *
        generalize d[k - 1]! = y at *
        have hE : ∀ w, (Op.equalIn 10000 44 (.agg #[.int .u32 (x.a : Int), .int .i64 x.l]) (.agg #[.int .u32 (y.a : Int), .int .i64 y.l])).run Try.prog w = .ok (decide (x = y)) w := equal44 x y
        by_cases hdup : x = y
        · have HD := hidp hdup
          simp only [decide_eq_true hdup] at hE
          clear hdup
          go_wp2_with fail
          go_region
          go_wp2
          clear c0 c1 d0 d1 hE
          go_loopg [3, 5] d.size (fun g s3 s5 wr => ∃ (kk k2 q2 : Nat) (dk : Array Pf), s3 = .int .i64 kk ∧ s5 = .int .i64 k2 ∧ 1 ≤ k2 ∧ k + k2 ≤ d.size ∧ d.size - (k + k2) ≤ g ∧ wr = putRowK Pf.cells 2 (Sort.ahead w q2) blk off dk ∧ CompInv d (k + k2) kk dk)
          case atStart => exact ⟨k, 1, q + 1, d, rfl, rfl, Nat.le_refl _, by omega, by omega, (putRowK_self Pf.cells 2 (Sort.ahead w (q + 1)) blk off d (holdsK_ahead Pf.cells 2 w (q + 1) blk off d HH.out)).symm, CompInv.start A.out (B2.out HD.out)⟩
          case round =>
            obtain ⟨kk, k2, q2, dk, rfl, rfl, h1, hle, hg2, hwr, hI⟩ := hrel
            have hkk := hI.lt
            have hds := hI.size
            have hHk : HoldsK Pf.cells 2 wr blk off dk := by rw [hwr]; exact holdsK_putRowK Pf.cells 2 _ blk off d dk (holdsK_ahead Pf.cells 2 w q2 blk off d HH.out) hds
            have W2 := hidp hwr
            have I2 := hidp hI
            clear hwr
            by_cases hlt2 : k + k2 < d.size
            · obtain ⟨cm, -⟩ := pcell0 hHk (i := k + k2) (by omega)
              obtain ⟨dm, -⟩ := pcell1 hHk (i := k + k2) (by omega)
              obtain ⟨cp, -⟩ := pcell0 hHk (i := k + k2 - 1) (by omega)
              obtain ⟨dp, -⟩ := pcell1 hHk (i := k + k2 - 1) (by omega)
              obtain ⟨ck, fk⟩ := pcell0 hHk (i := kk) (by omega)
              obtain ⟨dk', fk'⟩ := pcell1 hHk (i := kk) (by omega)
              rw [hI.high (k + k2) (by omega), show off + (k + k2) * 2 = off + k * 2 + k2 * 2 by omega] at cm dm
              rw [hI.high (k + k2 - 1) (by omega), show off + (k + k2 - 1) * 2 = off + k * 2 + (k2 - 1) * 2 by omega] at cp dp
              clear hHk hI
              have C := hidp (keeps_pos (d := d) (m := k + k2))
              have C2 := hidp (keeps_neg (d := d) (m := k + k2) (by omega))
              have KP := hidp (fun h => I2.out.keep hlt2 h)
              generalize d[k + k2]! = u at *
              generalize d[k + k2 - 1]! = v at *
              generalize dk[kk]! = old at ck dk'
              have hE : ∀ w, (Op.equalIn 10000 44 (.agg #[.int .u32 (u.a : Int), .int .i64 u.l]) (.agg #[.int .u32 (v.a : Int), .int .i64 v.l])).run Try.prog w = .ok (decide (u = v)) w := equal44 u v
              by_cases huv : u = v
              · have HUV := hidp huv
                simp only [decide_eq_true huv] at hE
                clear huv
                go_wp2_with fail
                go_region
                go_wp2
                go_roundg (d.size - (k + (k2 + 1)))
                case measure => omega
                case rel => exact ⟨kk, k2 + 1, q2 + 1, dk, rfl, by go_num, by omega, by omega, Nat.le_refl _, by rw [W2.out]; rfl, I2.out.skip (C2.out HUV.out)⟩
              · have HUV := hidp huv
                simp only [decide_eq_false huv] at hE
                clear huv
                go_wp2_with fail
                go_region
                go_wp2
                go_roundg (d.size - (k + (k2 + 1)))
                case measure => omega
                case rel => exact ⟨kk + 1, k2 + 1, q2 + 1, dk.setIfInBounds kk u, by go_num, by go_num, by omega, by omega, Nat.le_refl _, by rw [store_two (by omega) W2.out u]; rfl, KP.out (C.out HUV.out)⟩
            · have hend : k + k2 = d.size := by omega
              have hcl : ∀ ty, (Builtin.clear_ #[29] ty #[.slice (some ⟨blk, off + kk * 2, none⟩) (d.size - kk) (cap - kk)]).run Try.prog wr = .ok (.tuple #[]) (wr.setCells blk (off + kk * 2) ((List.replicate (d.size - kk) (⟨0, 0⟩ : Pf)).flatMap Pf.cells)) :=
                fun ty => run_clear_pfs wr _ _ ty _ Try.underlying29 zval44 blk (off + kk * 2) _ _ (by omega) (fun j hj => by rw [show off + kk * 2 + j = off + (kk * 2 + j) by omega]; exact (pcells hHk (by omega)).1) (fun j hj => by rw [show off + kk * 2 + j = off + (kk * 2 + j) by omega]; exact (pcells hHk (by omega)).2)
              clear hHk hI
              go_wp2
              go_ret
              have hI := I2.out
              rw [hend] at hI
              refine ⟨by rw [hI.len]; rfl, q2, ?_⟩
              rw [hI.len]
              exact done_two W2.out hI
        · have HD := hidp hdup
          simp only [decide_eq_false hdup] at hE
          clear hdup
          go_wp2_with fail
          go_region
          go_wp2
          go_roundg (d.size - (k + 1))
          case measure => omega
          case rel =>
            refine ⟨k + 1, q + 1, by omega, by omega, Nat.le_refl _, by go_num, rfl, fun j hj => ?_⟩
            by_cases e : j = k
            · subst e
              exact B.out HD.out
            · exact A.out j (by omega)
      · have : k = d.size := by omega
        subst this
        have A := hidp hall
        clear hall
        go_wp2
        go_ret
        obtain ⟨e1, e2⟩ := HS.out q A.out
        exact ⟨by rw [e1]; rfl, q, e2⟩
end Go.Proofs.Ytnenpfalhbbadaa
