/- What 'down' of a clock gives, and the same of the reference's Tick. -/
import Derived.Test.YtefnbmggokfanaaRows
import Derived.Test.YtefnbmggokfanaaBase
namespace Go.Proofs.Ytefnbmggokfanaa
open Go.RowKit

theorem Try.info3 : (Try.prog.info? 3).map (fun i => (i.zero, i.size, i.bytes)) = some (some (.int .i64 0), 1, 8) := by kernel_rfl

def dn (t x : Int) : Int := if x ≤ 0 then x else x - t
def hitB (t x : Int) : Bool := decide (0 < x) && decide (x = t)
def out3 (t a b c : Int) (k : Nat) : List Int :=
  (if decide (0 < k) && hitB t a then [0] else []) ++ (if decide (1 < k) && hitB t b then [1] else []) ++ (if decide (2 < k) && hitB t c then [2] else [])
def nth3 (a b c : Int) (k : Nat) : Int := if k = 0 then a else if k = 1 then b else c

theorem out3_succ (t a b c : Int) (k : Nat) (h : k < 3) : out3 t a b c (k + 1) = out3 t a b c k ++ (if hitB t (nth3 a b c k) then [(k : Int)] else []) := by
  obtain rfl | rfl | rfl : k = 0 ∨ k = 1 ∨ k = 2 := by omega
  all_goals simp [out3, nth3]
theorem out3_le (t a b c : Int) (k : Nat) : (out3 t a b c k).length ≤ 3 := by
  unfold out3; simp only [List.length_append]; split <;> split <;> split <;> simp
theorem out3_hit {t a b c : Int} {k : Nat} (h : k < 3) (hh : hitB t (nth3 a b c k) = true) : out3 t a b c (k + 1) = out3 t a b c k ++ [(k : Int)] := by
  rw [out3_succ _ _ _ _ _ h, if_pos hh]
theorem out3_miss {t a b c : Int} {k : Nat} (h : k < 3) (hh : hitB t (nth3 a b c k) = false) : out3 t a b c (k + 1) = out3 t a b c k := by
  rw [out3_succ _ _ _ _ _ h, hh]; simp

/-- the box of the clock behind k rounds -/
def boxAt (t a b c : Int) (k : Nat) : Obj := .cells #[.int .i64 (if 0 < k then dn t a else a), .int .i64 (if 1 < k then dn t b else b), .int .i64 (if 2 < k then dn t c else c)] 24 (0, 0)

/-- what the round carries -/
structure DownRel (w : World) (a b c t : Int) (k : Nat) (v : Value) (wr : World) : Prop where
  box : wr.heap[w.heap.size]? = some (boxAt t a b c k)
  res : wr.heap[w.heap.size + 1]? = some (.cells #[.int .i64 0, .int .i64 0, .int .i64 0] 24 (0, 0))
  own : wr.ownsRow (w.heap.size + 2) 3 1 v (out3 t a b c k).length ((out3 t a b c k).map (Value.int .i64))
  below : Below w.heap.size w wr

theorem DownRel.keep {w wr : World} {a b c t : Int} {k : Nat} {v : Value} (R : DownRel w a b c t k v wr) (h : k < 3) (hx : nth3 a b c k ≤ 0) : DownRel w a b c t (k + 1) v wr := by
  have hm : hitB t (nth3 a b c k) = false := by simp [hitB]; omega
  refine ⟨?_, R.res, by rw [out3_miss h hm]; exact R.own, R.below⟩
  rw [R.box]
  obtain rfl | rfl | rfl : k = 0 ∨ k = 1 ∨ k = 2 := by omega
  all_goals (simp [nth3] at hx; simp [boxAt, dn, hx])

theorem DownRel.miss {w wr : World} {a b c t : Int} {k : Nat} {v : Value} (R : DownRel w a b c t k v wr) (h : k < 3) (hx : 0 < nth3 a b c k) (hn : nth3 a b c k ≠ t) :
    DownRel w a b c t (k + 1) v (wr.setCell ⟨w.heap.size, k, none⟩ (.int .i64 (nth3 a b c k - t))) := by
  have hm : hitB t (nth3 a b c k) = false := by simp [hitB, hn]
  refine ⟨?_, heap_setCell_far R.res _ _ (by simp), by rw [out3_miss h hm]; exact ownsRow_setCell_below R.own (by simp) _, R.below.setCell (by simp) _⟩
  rw [heap_setCell_same R.box]
  obtain rfl | rfl | rfl : k = 0 ∨ k = 1 ∨ k = 2 := by omega
  all_goals (simp [nth3] at hx; simp [boxAt, dn, nth3]; omega)

theorem DownRel.hit {w wr w2 : World} {a b c t : Int} {k : Nat} {v v' : Value} {q : Int} (R : DownRel w a b c t k v wr) (h : k < 3) (hx : 0 < nth3 a b c k) (hn : nth3 a b c k = t) (hq : q = 0)
    (hown : w2.ownsRow (w.heap.size + 2) 3 1 v' ((out3 t a b c k).length + 1) ((out3 t a b c k).map (Value.int .i64) ++ [.int .i64 k]))
    (hg : (wr.setCell ⟨w.heap.size, k, none⟩ (.int .i64 q)).grownBy w2 v.ownBlock) :
    DownRel w a b c t (k + 1) v' w2 := by
  have hm : hitB t (nth3 a b c k) = true := by simp [hitB, hn]; omega
  have hown0 := R.own.lt
  have hne : ∀ b, b < w.heap.size + 2 → some b ≠ v.ownBlock := fun b hb e => by have := hown0 b e.symm; omega
  refine ⟨?_, ?_, ?_, ?_⟩
  · refine heap_grown hg ?_ (hne _ (by omega))
    subst hq
    rw [heap_setCell_same R.box]
    obtain rfl | rfl | rfl : k = 0 ∨ k = 1 ∨ k = 2 := by omega
    all_goals (simp [nth3] at hx hn; simp [boxAt, dn]; rw [if_neg (by omega)]; omega)
  · exact heap_grown hg (heap_setCell_far R.res _ _ (by simp)) (hne _ (by omega))
  · rw [out3_hit h hm]; simpa using hown
  · have hs := R.below.size
    exact (R.below.setCell (p := ⟨w.heap.size, k, none⟩) (by simp) _).grown hg (by simp; omega) (fun b e => by have := hown0 b e; omega)

theorem boxAt_cells (t a b c : Int) (k : Nat) : ∃ x y z : Int, boxAt t a b c k = .cells #[.int .i64 x, .int .i64 y, .int .i64 z] 24 (0, 0) ∧ (k = 0 → x = a) ∧ (k = 1 → y = b) ∧ (k = 2 → z = c) ∧ (k = 3 → x = dn t a ∧ y = dn t b ∧ z = dn t c) :=
  ⟨_, _, _, rfl, fun h => by simp [h], fun h => by simp [h], fun h => by simp [h], fun h => by simp [h]⟩

set_option maxHeartbeats 4000000 in
theorem down_any (a b c t : Int) (w : World) (ha : a ≤ 9223372036854775807) (hb : b ≤ 9223372036854775807) (hc : c ≤ 9223372036854775807) (ht : 0 ≤ t) (ht' : t ≤ 9223372036854775807) :
    Calls Try.prog 18 #[.agg #[.int .i64 a, .int .i64 b, .int .i64 c], .int .i64 t] w fun e w' => ∃ v, e = .returned (.tuple #[.agg #[.int .i64 (dn t a), .int .i64 (dn t b), .int .i64 (dn t c)], v]) ∧ w'.ownsRow w.heap.size 3 1 v (out3 t a b c 3).length ((out3 t a b c 3).map (Value.int .i64)) ∧ Below w.heap.size w w' := by
  obtain ⟨i0, hi, hz0, hz1, hz2⟩ := info_parts Try.info3
  go_enter Try.func18, Try.ntmps18
  go_wp2
  go_loopw [6, 8] (fun v i wr => ∃ k : Nat, k ≤ 3 ∧ i = .int .i64 k ∧ DownRel w a b c t k v wr) (fun _ i _ => 3 - (intOf i).toNat)
  case atStart =>
    refine ⟨0, by omega, rfl, ?_, ?_, World.ownsRow_nil _ _ _ _, ?_⟩
    · exact heap_alloc_at (heap_alloc_new _ _) _
    · exact heap_alloc_top _ _ _ (by simp)
    · go_grown
  case round =>
    obtain ⟨k, hk, rfl, R⟩ := hrel
    have hbox := R.box
    have hsz := ltOf R.res
    have hown := R.own
    have hle := out3_le t a b c k
    obtain ⟨x, y, z, hB, b0, b1, b2, b3⟩ := boxAt_cells t a b c k
    rw [hB] at hbox
    clear hB
    obtain rfl | rfl | rfl | rfl : k = 0 ∨ k = 1 ∨ k = 2 ∨ k = 3 := by omega
    · obtain rfl := b0 rfl
      clear b0 b1 b2 b3
      have c0 := cellOf hbox 0 rfl
      have f0 := frozenOf hbox 0
      clear hbox
      by_cases h1 : x ≤ 0
      · have R' := R.keep (by omega) (by simpa [nth3] using h1)
        clear R
        go_wp2
        go_roundw
        case rel => exact ⟨1, by omega, rfl, R'⟩
        case measure => simp [intOf]
      · by_cases h2 : x = t
        · subst h2
          have hown' := ownsRow_setCell_below hown (a := ⟨w.heap.size, 0, none⟩) (by simp) (.int .i64 0)
          go_wp2_with (at_builtin; refine wpList_append1 _ rfl _ _ 30 rfl (w.heap.size + 2) 3 i0 (.int .i64 0) 8 Try.underlying30 hi hz0 hz1 hz2 rfl _ _ _ rfl hown' (.int .i64 0) _ rfl rfl (by simp) (by omega) (by decide) (by simp; omega) ?_; intro v' w1 hown1 hgrow; have R' := R.hit (by omega) (by simp [nth3]; omega) (by simp [nth3]) rfl hown1 hgrow; clear R hown hown' hown1 hgrow)
          go_roundw
          case rel => exact ⟨1, by omega, rfl, R'⟩
          case measure => simp [intOf]
        · have R' := R.miss (by omega) (by simp [nth3]; omega) (by simpa [nth3] using h2)
          have hf : (x - t == 0) = false := by simp; omega
          clear R
          go_wp2
          go_roundw
          case rel => exact ⟨1, by omega, rfl, R'⟩
          case measure => simp [intOf]
    · obtain rfl := b1 rfl
      clear b0 b1 b2 b3
      have c0 := cellOf hbox 1 rfl
      have f0 := frozenOf hbox 1
      clear hbox
      by_cases h1 : y ≤ 0
      · have R' := R.keep (by omega) (by simpa [nth3] using h1)
        clear R
        go_wp2
        go_roundw
        case rel => exact ⟨2, by omega, rfl, R'⟩
        case measure => simp [intOf]
      · by_cases h2 : y = t
        · subst h2
          have hown' := ownsRow_setCell_below hown (a := ⟨w.heap.size, 1, none⟩) (by simp) (.int .i64 0)
          go_wp2_with (at_builtin; refine wpList_append1 _ rfl _ _ 30 rfl (w.heap.size + 2) 3 i0 (.int .i64 0) 8 Try.underlying30 hi hz0 hz1 hz2 rfl _ _ _ rfl hown' (.int .i64 1) _ rfl rfl (by simp) (by omega) (by decide) (by simp; omega) ?_; intro v' w1 hown1 hgrow; have R' := R.hit (by omega) (by simp [nth3]; omega) (by simp [nth3]) rfl hown1 hgrow; clear R hown hown' hown1 hgrow)
          go_roundw
          case rel => exact ⟨2, by omega, rfl, R'⟩
          case measure => simp [intOf]
        · have R' := R.miss (by omega) (by simp [nth3]; omega) (by simpa [nth3] using h2)
          have hf : (y - t == 0) = false := by simp; omega
          clear R
          go_wp2
          go_roundw
          case rel => exact ⟨2, by omega, rfl, R'⟩
          case measure => simp [intOf]
    · obtain rfl := b2 rfl
      clear b0 b1 b2 b3
      have c0 := cellOf hbox 2 rfl
      have f0 := frozenOf hbox 2
      clear hbox
      by_cases h1 : z ≤ 0
      · have R' := R.keep (by omega) (by simpa [nth3] using h1)
        clear R
        go_wp2
        go_roundw
        case rel => exact ⟨3, by omega, rfl, R'⟩
        case measure => simp [intOf]
      · by_cases h2 : z = t
        · subst h2
          have hown' := ownsRow_setCell_below hown (a := ⟨w.heap.size, 2, none⟩) (by simp) (.int .i64 0)
          go_wp2_with (at_builtin; refine wpList_append1 _ rfl _ _ 30 rfl (w.heap.size + 2) 3 i0 (.int .i64 0) 8 Try.underlying30 hi hz0 hz1 hz2 rfl _ _ _ rfl hown' (.int .i64 2) _ rfl rfl (by simp) (by omega) (by decide) (by simp; omega) ?_; intro v' w1 hown1 hgrow; have R' := R.hit (by omega) (by simp [nth3]; omega) (by simp [nth3]) rfl hown1 hgrow; clear R hown hown' hown1 hgrow)
          go_roundw
          case rel => exact ⟨3, by omega, rfl, R'⟩
          case measure => simp [intOf]
        · have R' := R.miss (by omega) (by simp [nth3]; omega) (by simpa [nth3] using h2)
          have hf : (z - t == 0) = false := by simp; omega
          clear R
          go_wp2
          go_roundw
          case rel => exact ⟨3, by omega, rfl, R'⟩
          case measure => simp [intOf]
    · obtain ⟨rfl, rfl, rfl⟩ := b3 rfl
      clear b0 b1 b2 b3
      have c0 := cellOf hbox 0 rfl
      have c1 := cellOf hbox 1 rfl
      have c2 := cellOf hbox 2 rfl
      have hres := R.res
      have r0 := cellOf hres 0 rfl
      have r1 := cellOf hres 1 rfl
      have r2 := cellOf hres 2 rfl
      have f0 := frozenOf hres 0
      have f1 := frozenOf hres 1
      have f2 := frozenOf hres 2
      have hbel := R.below
      have hthree := three_set hres (.int .i64 (dn t a)) (.int .i64 (dn t b)) (.int .i64 (dn t c))
      have q0 := cellOf hthree 0 rfl
      have q1 := cellOf hthree 1 rfl
      have q2 := cellOf hthree 2 rfl
      have Q := hidp (And.intro q0 (And.intro q1 q2))
      clear hbox hres R hsz hthree q0 q1 q2
      go_wp2
      obtain ⟨q0, q1, q2⟩ := Q.out
      refine bodyPost_ret (v := .tuple #[.agg #[.int .i64 (dn t a), .int .i64 (dn t b), .int .i64 (dn t c)], _]) (by simp [results, Try.results18, go_sem, q0, q1, q2]; rfl) rfl ⟨_, rfl, ?_, ?_⟩
      · exact ownsRow_weaken (ownsRow_setCell_below (ownsRow_setCell_below (ownsRow_setCell_below hown (a := ⟨w.heap.size + 1, 0, none⟩) (by simp) _) (a := ⟨w.heap.size + 1, 1, none⟩) (by simp) _) (a := ⟨w.heap.size + 1, 2, none⟩) (by simp) _) (Nat.le_add_right _ 2)
      · go_grown
end Go.Proofs.Ytefnbmggokfanaa
