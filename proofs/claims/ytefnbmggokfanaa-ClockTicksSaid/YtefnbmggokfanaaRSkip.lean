/- What Skip of the reference gives: tick by tick. -/
import Derived.Test.YtefnbmggokfanaaSkip
import Derived.Deep.Cut
namespace Go.Proofs.Ytefnbmggokfanaa
open Go.RowKit

theorem each_of_first {a b c : Int} {k : Int} (h : fst3 a b c = 0 ∨ k < fst3 a b c) : (a ≤ 0 ∨ k < a) ∧ (b ≤ 0 ∨ k < b) ∧ (c ≤ 0 ∨ k < c) := by
  have := fst3_spec a b c; omega
theorem dn_next {x k : Int} (h : x ≤ 0 ∨ k < x) : dn 1 (dn k x) = dn (k + 1) x := by
  by_cases h0 : x ≤ 0
  · simp [dn, h0]
  · have h1 : ¬ x - k ≤ 0 := by omega
    simp only [dn, if_neg h0, if_neg h1]; omega
theorem hit_next {x k : Int} (hk : 0 ≤ k) (_h : x ≤ 0 ∨ k < x) : hitB 1 (dn k x) = hitB (k + 1) x := by
  unfold hitB dn
  rw [Bool.eq_iff_iff]
  simp only [Bool.and_eq_true, decide_eq_true_eq]
  split <;> omega
theorem out3_next {a b c k : Int} (hk : 0 ≤ k) (h : fst3 a b c = 0 ∨ k < fst3 a b c) : out3 1 (dn k a) (dn k b) (dn k c) 3 = out3 (k + 1) a b c 3 := by
  obtain ⟨h1, h2, h3⟩ := each_of_first h
  simp only [out3, hit_next hk h1, hit_next hk h2, hit_next hk h3]
theorem out3_none {a b c k : Int} (h : fst3 a b c = 0 ∨ k < fst3 a b c) : out3 k a b c 3 = [] := by
  obtain ⟨h1, h2, h3⟩ := each_of_first h
  have g : ∀ x, (x ≤ 0 ∨ k < x) → hitB k x = false := by intro x hx; simp [hitB]; omega
  simp [out3, g _ h1, g _ h2, g _ h3]
theorem out3_some {a b c k : Int} (hk : 0 < k) (h : fst3 a b c = k) : 0 < (out3 k a b c 3).length := by
  have hs := fst3_spec a b c
  have g : hitB k a = true ∨ hitB k b = true ∨ hitB k c = true := by simp [hitB]; omega
  unfold out3
  simp only [List.length_append]
  rcases g with g | g | g <;> simp [g] <;> omega
theorem dn_le {k x m : Int} (hk : 0 ≤ k) (h : x ≤ m) (_hm : 0 ≤ m) : dn k x ≤ m := by unfold dn; split <;> omega

/-- what the round carries: the result's block, now's block behind k ticks -/
structure RSkipRel (w : World) (a b c : Int) (k : Nat) (wr : World) : Prop where
  res : wr.heap[w.heap.size + 1]? = some (.cells #[.int .i64 0, .int .i64 0, .int .i64 0] 22 (0, 0))
  now : wr.heap[w.heap.size + 1 + 1]? = some (.cells #[.int .i64 (dn k a), .int .i64 (dn k b), .int .i64 (dn k c)] 22 (0, 0))
  below : Below w.heap.size w wr

set_option maxHeartbeats 4000000 in
theorem rskip_any (a b c n : Int) (w : World) (ha : a ≤ 9223372036854775807) (hb : b ≤ 9223372036854775807) (hc : c ≤ 9223372036854775807) (hn : n ≤ 5000) :
    Calls Try.prog 16 #[.agg #[.int .i64 a, .int .i64 b, .int .i64 c], .int .i64 n] w (Skipped a b c (skipN a b c n) w) := by
  have hf0 := fst3_nonneg a b c
  go_enter Try.func16, Try.ntmps16
  go_wp2
  go_loopw [8] (fun i wr => ∃ k : Nat, ((k : Int) ≤ n ∨ k = 0) ∧ i = .int .i64 k ∧ (fst3 a b c = 0 ∨ (k : Int) < fst3 a b c) ∧ RSkipRel w a b c k wr) (fun i _ => (n - intOf i).toNat)
  case atStart =>
    refine ⟨0, by omega, rfl, by omega, ?_, ?_, ?_⟩
    · exact heap_alloc_at (heap_alloc_top _ _ _ (by simp)) _
    · simp only [Int.natCast_zero, dn_zero]; exact heap_alloc_top _ _ _ (by simp)
    · go_grown
  case round =>
    obtain ⟨k, hk, rfl, hfk, R⟩ := hrel
    have hnow := R.now
    have n0 := cellOf hnow 0 rfl
    have n1 := cellOf hnow 1 rfl
    have n2 := cellOf hnow 2 rfl
    have hsz := ltOf hnow
    have HF := hidp hfk
    clear hfk
    by_cases hlt : (k : Int) < n
    · clear hnow
      go_wp2_with fail
      go_call rtick_any _ _ _ _ (dn_le (by omega) ha (by omega)) (dn_le (by omega) hb (by omega)) (dn_le (by omega) hc (by omega)) as e w1 ⟨v, rfl, hown, hbel⟩
      obtain ⟨e1, e2, e3⟩ := each_of_first HF.out
      rw [dn_next e1, dn_next e2, dn_next e3]
      rw [out3_next (by omega) HF.out] at hown
      clear e1 e2 e3 n0 n1 n2
      have hres1 := heap_below hbel R.res (by omega)
      have hnow1 := heap_below hbel R.now hsz
      have hbel1 : Below w.heap.size w w1 := R.below.trans (hbel.mono R.below.size)
      have hown1 := ownsRow_weaken hown (show w.heap.size + 3 ≤ wr.heap.size by omega)
      clear hbel R hown
      have hz := ltOf hnow1
      have hz1 := ltOf hres1
      have n0 := cellOf hnow1 0 rfl
      have n1 := cellOf hnow1 1 rfl
      have n2 := cellOf hnow1 2 rfl
      have g0 := frozenOf hnow1 0
      have g1 := frozenOf hnow1 1
      have g2 := frozenOf hnow1 2
      obtain ⟨ad, cap, rfl⟩ := ownsRow_slice hown1
      have hbel2 : Below w.heap.size w ((((w1.setCell ⟨w.heap.size + 1 + 1, 0, none⟩ (.int .i64 (dn (↑k + 1) a))).setCell ⟨w.heap.size + 1 + 1, 1, none⟩ (.int .i64 (dn (↑k + 1) b))).setCell ⟨w.heap.size + 1 + 1, 2, none⟩ (.int .i64 (dn (↑k + 1) c))).alloc (.cells #[.int .i64 (dn (↑k + 1) a), .int .i64 (dn (↑k + 1) b), .int .i64 (dn (↑k + 1) c)] 22)) := by go_grown
      have hnow2 := heap_alloc_at (three_set hnow1 (.int .i64 (dn (↑k + 1) a)) (.int .i64 (dn (↑k + 1) b)) (.int .i64 (dn (↑k + 1) c))) (.cells #[.int .i64 (dn (↑k + 1) a), .int .i64 (dn (↑k + 1) b), .int .i64 (dn (↑k + 1) c)] 22)
      have hres2 := heap_alloc_at (heap_setCell_far (heap_setCell_far (heap_setCell_far hres1 ⟨w.heap.size + 1 + 1, 0, none⟩ (.int .i64 (dn (↑k + 1) a)) (by simp)) ⟨w.heap.size + 1 + 1, 1, none⟩ (.int .i64 (dn (↑k + 1) b)) (by simp)) ⟨w.heap.size + 1 + 1, 2, none⟩ (.int .i64 (dn (↑k + 1) c)) (by simp)) (.cells #[.int .i64 (dn (↑k + 1) a), .int .i64 (dn (↑k + 1) b), .int .i64 (dn (↑k + 1) c)] 22)
      have hown2 := (ownsRow_setCell_below (ownsRow_setCell_below (ownsRow_setCell_below hown1 (a := ⟨w.heap.size + 1 + 1, 0, none⟩) (by simp) (.int .i64 (dn (↑k + 1) a))) (a := ⟨w.heap.size + 1 + 1, 1, none⟩) (by simp) (.int .i64 (dn (↑k + 1) b))) (a := ⟨w.heap.size + 1 + 1, 2, none⟩) (by simp) (.int .i64 (dn (↑k + 1) c))).alloc (.cells #[.int .i64 (dn (↑k + 1) a), .int .i64 (dn (↑k + 1) b), .int .i64 (dn (↑k + 1) c)] 22)
      have FF := hidp (And.intro hbel2 (And.intro hnow2 (And.intro hres2 hown2)))
      clear hbel2 hnow2 hres2 hown2 hnow1 hres1 hbel1 hown1
      by_cases hfirst : fst3 a b c = k + 1
      · have hpos := out3_some (by omega) hfirst
        have hm : Hid (skipN a b c n = (k : Int) + 1) := by unfold skipN; rw [hfirst, if_pos (by omega)]; show _ = _; omega
        clear hfirst
        go_upto_region 8 with (fail)
        have F := FF.out
        clear FF
        generalize ((((w1.setCell ⟨w.heap.size + 1 + 1, 0, none⟩ (.int .i64 (dn (↑k + 1) a))).setCell ⟨w.heap.size + 1 + 1, 1, none⟩ (.int .i64 (dn (↑k + 1) b))).setCell ⟨w.heap.size + 1 + 1, 2, none⟩ (.int .i64 (dn (↑k + 1) c))).alloc (.cells #[.int .i64 (dn (↑k + 1) a), .int .i64 (dn (↑k + 1) b), .int .i64 (dn (↑k + 1) c)] 22)) = W2 at F ⊢
        obtain ⟨hbel2, hnow2, hres2, hown2⟩ := F
        clear n0 n1 n2 g0 g1 g2 hz hz1
        have n0 := cellOf hnow2 0 rfl
        have n1 := cellOf hnow2 1 rfl
        have n2 := cellOf hnow2 2 rfl
        have r0 := cellOf hres2 0 rfl
        have r1 := cellOf hres2 1 rfl
        have r2 := cellOf hres2 2 rfl
        have f0 := frozenOf hres2 0
        have f1 := frozenOf hres2 1
        have f2 := frozenOf hres2 2
        have hthree := three_set hres2 (.int .i64 (dn (↑k + 1) a)) (.int .i64 (dn (↑k + 1) b)) (.int .i64 (dn (↑k + 1) c))
        have Q := hidp (And.intro (cellOf hthree 0 rfl) (And.intro (cellOf hthree 1 rfl) (cellOf hthree 2 rfl)))
        clear hthree hres2 hnow2
        go_wp2
        obtain ⟨q0, q1, q2⟩ := Q.out
        refine bodyPost_ret (v := .tuple #[.agg #[.int .i64 (dn (↑k + 1) a), .int .i64 (dn (↑k + 1) b), .int .i64 (dn (↑k + 1) c)], _, _]) (by simp [results, Try.results16, go_sem, q0, q1, q2]; exact ⟨rfl, rfl⟩) rfl ?_
        rw [hm.out]
        refine ⟨_, rfl, ?_, ?_⟩
        · exact ownsRow_weaken (ownsRow_setCell_below (ownsRow_setCell_below (ownsRow_setCell_below hown2 (a := ⟨w.heap.size + 1, 0, none⟩) (by simp) _) (a := ⟨w.heap.size + 1, 1, none⟩) (by simp) _) (a := ⟨w.heap.size + 1, 2, none⟩) (by simp) _) (by omega)
        · go_grown
      · have hnone : fst3 a b c = 0 ∨ ((k : Int) + 1) < fst3 a b c := by have := HF.out; omega
        have hzero := out3_none hnone
        have HN := hidp hnone
        rw [hzero] at FF ⊢
        go_wp2
        have F := FF.out
        go_roundw
        case rel => exact ⟨k + 1, by omega, by go_num, HN.out, ⟨F.2.2.1, F.2.1, F.1⟩⟩
        case measure => simp [intOf]; omega
    · obtain ⟨m, hkm, hm⟩ : ∃ m : Int, m = k ∧ Hid (skipN a b c n = m) := by
        refine ⟨_, rfl, ?_⟩
        have hfk := HF.out
        unfold skipN; show _ = _; split <;> omega
      have hnil := out3_none HF.out
      have hres := R.res
      have hbel := R.below
      have r0 := cellOf hres 0 rfl
      have r1 := cellOf hres 1 rfl
      have r2 := cellOf hres 2 rfl
      have f0 := frozenOf hres 0
      have f1 := frozenOf hres 1
      have f2 := frozenOf hres 2
      have hthree := three_set hres (.int .i64 (dn ↑k a)) (.int .i64 (dn ↑k b)) (.int .i64 (dn ↑k c))
      have Q := hidp (And.intro (cellOf hthree 0 rfl) (And.intro (cellOf hthree 1 rfl) (cellOf hthree 2 rfl)))
      have HK := hidp hkm
      have HL := hidp hnil
      clear hthree hres R hnow hkm hnil
      by_cases hneg : n < 0
      · obtain rfl : k = 0 := by omega
        go_wp2
        obtain ⟨q0, q1, q2⟩ := Q.out
        rw [show ((0 : Nat) : Int) = 0 from rfl] at q0 q1 q2
        refine bodyPost_ret (v := .tuple #[.agg #[.int .i64 (dn 0 a), .int .i64 (dn 0 b), .int .i64 (dn 0 c)], .slice none 0 0, .int .i64 0]) (by simp [results, Try.results16, go_sem, q0, q1, q2]) rfl ?_
        rw [hm.out, HK.out]
        refine ⟨_, rfl, by rw [HL.out]; exact World.ownsRow_nil _ _ _ _, by go_grown⟩
      · have hnk : Hid (n = m) := by have := HK.out; show _ = _; omega
        go_wp2
        obtain ⟨q0, q1, q2⟩ := Q.out
        refine bodyPost_ret (v := .tuple #[.agg #[.int .i64 (dn ↑k a), .int .i64 (dn ↑k b), .int .i64 (dn ↑k c)], .slice none 0 0, .int .i64 n]) (by simp [results, Try.results16, go_sem, q0, q1, q2]) rfl ?_
        rw [hm.out, hnk.out, HK.out]
        refine ⟨_, rfl, by rw [HL.out]; exact World.ownsRow_nil _ _ _ _, by go_grown⟩
end Go.Proofs.Ytefnbmggokfanaa
