/- What Tick of a clock and Tick of the reference give; Same of two lists of numbers. -/
import Derived.Test.YtefnbmggokfanaaDown
namespace Go.Proofs.Ytefnbmggokfanaa
open Go.RowKit

set_option maxHeartbeats 1000000 in
theorem tick_any (a b c : Int) (w : World) (ha : a ≤ 9223372036854775807) (hb : b ≤ 9223372036854775807) (hc : c ≤ 9223372036854775807) :
    Calls Try.prog 11 #[.agg #[.int .i64 a, .int .i64 b, .int .i64 c]] w fun e w' => ∃ v, e = .returned (.tuple #[.agg #[.int .i64 (dn 1 a), .int .i64 (dn 1 b), .int .i64 (dn 1 c)], v]) ∧ w'.ownsRow w.heap.size 3 1 v (out3 1 a b c 3).length ((out3 1 a b c 3).map (Value.int .i64)) ∧ Below w.heap.size w w' := by
  go_enter Try.func11, Try.ntmps11
  go_wp2_with fail
  go_call down_any a b c 1 _ ha hb hc (by omega) (by omega) as e w1 ⟨v, rfl, hown, hbel⟩
  have hres := heap_below hbel (heap_alloc_top (w.alloc (.cells #[.int .i64 a, .int .i64 b, .int .i64 c] 24)) _ (w.heap.size + 1) (by simp)) (by simp)
  have r0 := cellOf hres 0 rfl
  have r1 := cellOf hres 1 rfl
  have r2 := cellOf hres 2 rfl
  have f0 := frozenOf hres 0
  have f1 := frozenOf hres 1
  have f2 := frozenOf hres 2
  have hthree := three_set hres (.int .i64 (dn 1 a)) (.int .i64 (dn 1 b)) (.int .i64 (dn 1 c))
  have q0 := cellOf hthree 0 rfl
  have q1 := cellOf hthree 1 rfl
  have q2 := cellOf hthree 2 rfl
  have Q := hidp (And.intro q0 (And.intro q1 q2))
  clear hres hthree q0 q1 q2
  have hbel' : Below w.heap.size w w1 := Below.trans (by go_grown) (hbel.mono (by simp; omega))
  obtain ⟨ad, cap, rfl⟩ := ownsRow_slice hown
  simp at hown
  clear hbel
  go_wp2
  obtain ⟨q0, q1, q2⟩ := Q.out
  refine bodyPost_ret (v := .tuple #[.agg #[.int .i64 (dn 1 a), .int .i64 (dn 1 b), .int .i64 (dn 1 c)], _]) (by simp [results, Try.results11, go_sem, q0, q1, q2]; rfl) rfl ⟨_, rfl, ?_, ?_⟩
  · exact ownsRow_weaken (ownsRow_setCell_below (ownsRow_setCell_below (ownsRow_setCell_below hown (a := ⟨w.heap.size + 1, 0, none⟩) (by simp) _) (a := ⟨w.heap.size + 1, 1, none⟩) (by simp) _) (a := ⟨w.heap.size + 1, 2, none⟩) (by simp) _) (Nat.le_add_right _ 2)
  · go_grown

/-- what the round of the reference's Tick carries: the clock's box, the result's, out's -/
structure RTickRel (w : World) (a b c : Int) (k : Nat) (v : Value) (wr : World) : Prop where
  src : wr.heap[w.heap.size]? = some (.cells #[.int .i64 a, .int .i64 b, .int .i64 c] 22 (0, 0))
  res : wr.heap[w.heap.size + 1]? = some (.cells #[.int .i64 0, .int .i64 0, .int .i64 0] 22 (0, 0))
  box : wr.heap[w.heap.size + 2]? = some (.cells #[.int .i64 (if 0 < k then dn 1 a else a), .int .i64 (if 1 < k then dn 1 b else b), .int .i64 (if 2 < k then dn 1 c else c)] 22 (0, 0))
  own : wr.ownsRow (w.heap.size + 3) 3 1 v (out3 1 a b c k).length ((out3 1 a b c k).map (Value.int .i64))
  below : Below w.heap.size w wr
theorem RTickRel.keep {w wr : World} {a b c : Int} {k : Nat} {v : Value} (R : RTickRel w a b c k v wr) (h : k < 3) (hx : nth3 a b c k ≤ 0) : RTickRel w a b c (k + 1) v wr := by
  have hm : hitB 1 (nth3 a b c k) = false := by simp [hitB]; omega
  refine ⟨R.src, R.res, ?_, by rw [out3_miss h hm]; exact R.own, R.below⟩
  rw [R.box]
  obtain rfl | rfl | rfl : k = 0 ∨ k = 1 ∨ k = 2 := by omega
  all_goals (simp [nth3] at hx; simp [dn, hx])

theorem RTickRel.miss {w wr : World} {a b c : Int} {k : Nat} {v : Value} (R : RTickRel w a b c k v wr) (h : k < 3) (hx : 0 < nth3 a b c k) (hn : nth3 a b c k ≠ 1) :
    RTickRel w a b c (k + 1) v (wr.setCell ⟨w.heap.size + 2, k, none⟩ (.int .i64 (nth3 a b c k - 1))) := by
  have hm : hitB 1 (nth3 a b c k) = false := by simp [hitB, hn]
  refine ⟨heap_setCell_far R.src _ _ (by simp), heap_setCell_far R.res _ _ (by simp), ?_, by rw [out3_miss h hm]; exact ownsRow_setCell_below R.own (by simp) _, R.below.setCell (by simp) _⟩
  rw [heap_setCell_same R.box]
  obtain rfl | rfl | rfl : k = 0 ∨ k = 1 ∨ k = 2 := by omega
  all_goals (simp [nth3] at hx; simp [dn, nth3]; omega)

theorem RTickRel.hit {w wr w2 : World} {a b c : Int} {k : Nat} {v v' : Value} {q : Int} (R : RTickRel w a b c k v wr) (h : k < 3) (hn : nth3 a b c k = 1) (hq : q = 0)
    (hown : w2.ownsRow (w.heap.size + 3) 3 1 v' ((out3 1 a b c k).length + 1) ((out3 1 a b c k).map (Value.int .i64) ++ [.int .i64 k]))
    (hg : (wr.setCell ⟨w.heap.size + 2, k, none⟩ (.int .i64 q)).grownBy w2 v.ownBlock) :
    RTickRel w a b c (k + 1) v' w2 := by
  have hm : hitB 1 (nth3 a b c k) = true := by simp [hitB, hn]
  have hown0 := R.own.lt
  have hne : ∀ b, b < w.heap.size + 3 → some b ≠ v.ownBlock := fun b hb e => by have := hown0 b e.symm; omega
  refine ⟨heap_grown hg (heap_setCell_far R.src _ _ (by simp)) (hne _ (by omega)), heap_grown hg (heap_setCell_far R.res _ _ (by simp)) (hne _ (by omega)), ?_, ?_, ?_⟩
  · refine heap_grown hg ?_ (hne _ (by omega))
    subst hq
    rw [heap_setCell_same R.box]
    obtain rfl | rfl | rfl : k = 0 ∨ k = 1 ∨ k = 2 := by omega
    all_goals (simp [nth3] at hn; subst hn; simp [dn])
  · rw [out3_hit h hm]; simpa using hown
  · have hs := R.below.size
    exact (R.below.setCell (p := ⟨w.heap.size + 2, k, none⟩) (by simp) _).grown hg (by simp; omega) (fun b e => by have := hown0 b e; omega)

set_option maxHeartbeats 4000000 in
theorem rtick_any (a b c : Int) (w : World) (ha : a ≤ 9223372036854775807) (hb : b ≤ 9223372036854775807) (hc : c ≤ 9223372036854775807) :
    Calls Try.prog 12 #[.agg #[.int .i64 a, .int .i64 b, .int .i64 c]] w fun e w' => ∃ v, e = .returned (.tuple #[.agg #[.int .i64 (dn 1 a), .int .i64 (dn 1 b), .int .i64 (dn 1 c)], v]) ∧ w'.ownsRow w.heap.size 3 1 v (out3 1 a b c 3).length ((out3 1 a b c 3).map (Value.int .i64)) ∧ Below w.heap.size w w' := by
  obtain ⟨i0, hi, hz0, hz1, hz2⟩ := info_parts Try.info3
  go_enter Try.func12, Try.ntmps12
  go_wp2
  go_loopw [5, 6] (fun v i wr => ∃ k : Nat, k ≤ 3 ∧ i = .int .i64 k ∧ RTickRel w a b c k v wr) (fun _ i _ => 3 - (intOf i).toNat)
  case atStart =>
    refine ⟨0, by omega, rfl, ?_, ?_, ?_, World.ownsRow_nil _ _ _ _, ?_⟩
    · exact heap_alloc_at (heap_alloc_at (heap_alloc_new _ _) _) _
    · exact heap_alloc_at (heap_alloc_top _ _ _ (by simp)) _
    · exact heap_alloc_top _ _ _ (by simp)
    · go_grown
  case round =>
    obtain ⟨k, hk, rfl, R⟩ := hrel
    have hbox := R.box
    have hsrc := R.src
    have hsz := ltOf R.box
    have hown := R.own
    have hle := out3_le 1 a b c k
    obtain rfl | rfl | rfl | rfl : k = 0 ∨ k = 1 ∨ k = 2 ∨ k = 3 := by omega
    · have c0 := cellOf hbox 0 rfl
      have s0 := cellOf hsrc 0 rfl
      have f0 := frozenOf hbox 0
      simp only [Nat.lt_irrefl, if_false] at c0
      clear hbox hsrc
      by_cases h1 : a ≤ 0
      · have R' := R.keep (by omega) (by simpa [nth3] using h1)
        clear R
        go_wp2
        go_roundw
        case rel => exact ⟨1, by omega, rfl, R'⟩
        case measure => simp [intOf]
      · by_cases h2 : a = 1
        · subst h2
          have hown' := ownsRow_setCell_below hown (a := ⟨w.heap.size + 2, 0, none⟩) (by simp) (.int .i64 0)
          go_wp2_with (at_builtin; refine wpList_append1 _ rfl _ _ 30 rfl (w.heap.size + 3) 3 i0 (.int .i64 0) 8 Try.underlying30 hi hz0 hz1 hz2 rfl _ _ _ rfl hown' (.int .i64 0) _ rfl rfl (by simp) (by omega) (by decide) (by simp; omega) ?_; intro v' w1 hown1 hgrow; have R' := R.hit (by omega) (by simp [nth3]) rfl hown1 hgrow; clear R hown hown' hown1 hgrow)
          go_roundw
          case rel => exact ⟨1, by omega, rfl, R'⟩
          case measure => simp [intOf]
        · have R' := R.miss (by omega) (by simp [nth3]; omega) (by simpa [nth3] using h2)
          have hf : (a - 1 == 0) = false := by simp; omega
          simp only [nth3] at R'
          clear R
          go_wp2
          go_roundw
          case rel => exact ⟨1, by omega, rfl, R'⟩
          case measure => simp [intOf]
    · have c0 := cellOf hbox 1 rfl
      have s0 := cellOf hsrc 1 rfl
      have f0 := frozenOf hbox 1
      simp only [Nat.lt_irrefl, if_false] at c0
      clear hbox hsrc
      by_cases h1 : b ≤ 0
      · have R' := R.keep (by omega) (by simpa [nth3] using h1)
        clear R
        go_wp2
        go_roundw
        case rel => exact ⟨2, by omega, rfl, R'⟩
        case measure => simp [intOf]
      · by_cases h2 : b = 1
        · subst h2
          have hown' := ownsRow_setCell_below hown (a := ⟨w.heap.size + 2, 1, none⟩) (by simp) (.int .i64 0)
          go_wp2_with (at_builtin; refine wpList_append1 _ rfl _ _ 30 rfl (w.heap.size + 3) 3 i0 (.int .i64 0) 8 Try.underlying30 hi hz0 hz1 hz2 rfl _ _ _ rfl hown' (.int .i64 1) _ rfl rfl (by simp) (by omega) (by decide) (by simp; omega) ?_; intro v' w1 hown1 hgrow; have R' := R.hit (by omega) (by simp [nth3]) rfl hown1 hgrow; clear R hown hown' hown1 hgrow)
          go_roundw
          case rel => exact ⟨2, by omega, rfl, R'⟩
          case measure => simp [intOf]
        · have R' := R.miss (by omega) (by simp [nth3]; omega) (by simpa [nth3] using h2)
          have hf : (b - 1 == 0) = false := by simp; omega
          simp only [nth3] at R'
          clear R
          go_wp2
          go_roundw
          case rel => exact ⟨2, by omega, rfl, R'⟩
          case measure => simp [intOf]
    · have c0 := cellOf hbox 2 rfl
      have s0 := cellOf hsrc 2 rfl
      have f0 := frozenOf hbox 2
      simp only [Nat.lt_irrefl, if_false] at c0
      clear hbox hsrc
      by_cases h1 : c ≤ 0
      · have R' := R.keep (by omega) (by simpa [nth3] using h1)
        clear R
        go_wp2
        go_roundw
        case rel => exact ⟨3, by omega, rfl, R'⟩
        case measure => simp [intOf]
      · by_cases h2 : c = 1
        · subst h2
          have hown' := ownsRow_setCell_below hown (a := ⟨w.heap.size + 2, 2, none⟩) (by simp) (.int .i64 0)
          go_wp2_with (at_builtin; refine wpList_append1 _ rfl _ _ 30 rfl (w.heap.size + 3) 3 i0 (.int .i64 0) 8 Try.underlying30 hi hz0 hz1 hz2 rfl _ _ _ rfl hown' (.int .i64 2) _ rfl rfl (by simp) (by omega) (by decide) (by simp; omega) ?_; intro v' w1 hown1 hgrow; have R' := R.hit (by omega) (by simp [nth3]) rfl hown1 hgrow; clear R hown hown' hown1 hgrow)
          go_roundw
          case rel => exact ⟨3, by omega, rfl, R'⟩
          case measure => simp [intOf]
        · have R' := R.miss (by omega) (by simp [nth3]; omega) (by simpa [nth3] using h2)
          have hf : (c - 1 == 0) = false := by simp; omega
          simp only [nth3] at R'
          clear R
          go_wp2
          go_roundw
          case rel => exact ⟨3, by omega, rfl, R'⟩
          case measure => simp [intOf]
    · have c0 := cellOf hbox 0 rfl
      have c1 := cellOf hbox 1 rfl
      have c2 := cellOf hbox 2 rfl
      simp at c0 c1 c2
      have hres := R.res
      have r0 := cellOf hres 0 rfl
      have r1 := cellOf hres 1 rfl
      have r2 := cellOf hres 2 rfl
      have f0 := frozenOf hres 0
      have f1 := frozenOf hres 1
      have f2 := frozenOf hres 2
      have hbel := R.below
      have hthree := three_set hres (.int .i64 (dn 1 a)) (.int .i64 (dn 1 b)) (.int .i64 (dn 1 c))
      have q0 := cellOf hthree 0 rfl
      have q1 := cellOf hthree 1 rfl
      have q2 := cellOf hthree 2 rfl
      have Q := hidp (And.intro q0 (And.intro q1 q2))
      clear hbox hres R hsz hthree q0 q1 q2 hsrc
      go_wp2
      obtain ⟨q0, q1, q2⟩ := Q.out
      refine bodyPost_ret (v := .tuple #[.agg #[.int .i64 (dn 1 a), .int .i64 (dn 1 b), .int .i64 (dn 1 c)], _]) (by simp [results, Try.results12, go_sem, q0, q1, q2]; rfl) rfl ⟨_, rfl, ?_, ?_⟩
      · exact ownsRow_weaken (ownsRow_setCell_below (ownsRow_setCell_below (ownsRow_setCell_below hown (a := ⟨w.heap.size + 1, 0, none⟩) (by simp) _) (a := ⟨w.heap.size + 1, 1, none⟩) (by simp) _) (a := ⟨w.heap.size + 1, 2, none⟩) (by simp) _) (Nat.le_add_right _ 3)
      · go_grown
end Go.Proofs.Ytefnbmggokfanaa
