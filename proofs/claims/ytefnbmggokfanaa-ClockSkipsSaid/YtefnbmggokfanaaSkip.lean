/- What Skip of a clock and Skip of the reference give. -/
import Derived.Test.YtefnbmggokfanaaSame
namespace Go.Proofs.Ytefnbmggokfanaa
open Go.RowKit

theorem fst3_spec (a b c : Int) : (fst3 a b c = 0 ∧ a ≤ 0 ∧ b ≤ 0 ∧ c ≤ 0) ∨ (0 < fst3 a b c ∧ (0 < a → fst3 a b c ≤ a) ∧ (0 < b → fst3 a b c ≤ b) ∧ (0 < c → fst3 a b c ≤ c) ∧ (fst3 a b c = a ∨ fst3 a b c = b ∨ fst3 a b c = c)) := by
  unfold fst3
  have h1 : (fst1 0 a = 0 ∧ a ≤ 0) ∨ (0 < a ∧ fst1 0 a = a) := by unfold fst1; split <;> omega
  have step : ∀ f n : Int, 0 ≤ f → (fst1 f n = f ∧ (n ≤ 0 ∨ (0 < f ∧ f ≤ n))) ∨ (fst1 f n = n ∧ 0 < n ∧ (f = 0 ∨ n < f)) := by
    intro f n hf; unfold fst1; split <;> omega
  have h2 := step (fst1 0 a) b (by omega)
  have h3 := step (fst1 (fst1 0 a) b) c (by omega)
  generalize fst1 0 a = x at *
  generalize fst1 x b = y at *
  generalize fst1 y c = z at *
  omega

def skipN (a b c n : Int) : Int := if 0 < fst3 a b c then min (max n 0) (fst3 a b c) else max n 0

theorem dn_zero (x : Int) : dn 0 x = x := by unfold dn; split <;> omega
theorem out3_zero (a b c : Int) : out3 0 a b c 3 = [] := by
  have h : ∀ x, hitB 0 x = false := by intro x; simp [hitB]; omega
  simp [out3, h]

/-- what a call of Skip leaves: the clock m ticks later, which times came to 0, and m -/
def Skipped (a b c m : Int) (w : World) (e : Ending) (w' : World) : Prop :=
  ∃ v, e = .returned (.tuple #[.agg #[.int .i64 (dn m a), .int .i64 (dn m b), .int .i64 (dn m c)], v, .int .i64 m]) ∧ w'.ownsRow w.heap.size 3 1 v (out3 m a b c 3).length ((out3 m a b c 3).map (Value.int .i64)) ∧ Below w.heap.size w w'

set_option maxHeartbeats 2000000 in
theorem skip_any (a b c n : Int) (w : World) (ha : a ≤ 9223372036854775807) (hb : b ≤ 9223372036854775807) (hc : c ≤ 9223372036854775807) (hn : n ≤ 9223372036854775807) :
    Calls Try.prog 15 #[.agg #[.int .i64 a, .int .i64 b, .int .i64 c], .int .i64 n] w (Skipped a b c (skipN a b c n) w) := by
  have hf0 := fst3_nonneg a b c
  have hf1 := fst3_le a b c 9223372036854775807 (by omega) ha hb hc
  by_cases h0 : n ≤ 0
  · have hm : Hid (skipN a b c n = 0) := by unfold skipN; split <;> show _ = _ <;> omega
    go_enter Try.func15, Try.ntmps15
    go_wp2_with (go_call first_any a b c _ as e w1 ⟨rfl, rfl⟩)
    all_goals
      refine bodyPost_ret (v := .tuple #[.agg #[.int .i64 a, .int .i64 b, .int .i64 c], .slice none 0 0, .int .i64 0]) (by simp [results, Try.results15, go_sem]) rfl ?_
      rw [hm.out]
      refine ⟨.slice none 0 0, by rw [dn_zero, dn_zero, dn_zero], by rw [out3_zero]; exact World.ownsRow_nil _ _ _ _, by go_grown⟩
  · have hcase : ∃ m, Hid (skipN a b c n = m) ∧ 0 < m ∧ m ≤ 9223372036854775807 ∧ ((fst3 a b c = 0 ∧ m = n) ∨ (0 < fst3 a b c ∧ n ≤ fst3 a b c ∧ m = n) ∨ (0 < fst3 a b c ∧ fst3 a b c < n ∧ m = fst3 a b c)) := by
      refine ⟨_, rfl, ?_⟩
      unfold skipN; split <;> omega
    obtain ⟨m, hm, hm0, hm1, hc'⟩ := hcase
    rcases hc' with ⟨hf, rfl⟩ | ⟨hf, hlt, rfl⟩ | ⟨hf, hlt, hmf⟩
    · go_enter Try.func15, Try.ntmps15
      go_wp2_with (go_at_call 14; go_call first_any a b c _ as e w1 ⟨rfl, rfl⟩)
      go_call down_any a b c m _ ha hb hc (by omega) (by omega) as e w1 ⟨v, rfl, hown, hbel⟩
      have hres := heap_below hbel (heap_alloc_at (heap_alloc_top (w.alloc (.cells #[.int .i64 a, .int .i64 b, .int .i64 c] 24)) _ (w.heap.size + 1) (by simp)) _) (by simp)
      have hbel' : Below w.heap.size w w1 := Below.trans (by go_grown) (hbel.mono (by simp; omega))
      have hz := ltOf hres
      have r0 := cellOf hres 0 rfl
      have r1 := cellOf hres 1 rfl
      have r2 := cellOf hres 2 rfl
      have f0 := frozenOf hres 0
      have f1 := frozenOf hres 1
      have f2 := frozenOf hres 2
      obtain ⟨ad, cap, rfl⟩ := ownsRow_slice hown
      simp at hown
      clear hbel
      have HR := hidp hres
      clear hres
      go_wp2
      have hthree := heap_alloc_at (three_set HR.out (.int .i64 (dn m a)) (.int .i64 (dn m b)) (.int .i64 (dn m c))) (.cells #[.int .i64 (dn m a), .int .i64 (dn m b), .int .i64 (dn m c)] 24)
      have q0 := cellOf hthree 0 rfl
      have q1 := cellOf hthree 1 rfl
      have q2 := cellOf hthree 2 rfl
      refine bodyPost_ret (v := .tuple #[.agg #[.int .i64 (dn m a), .int .i64 (dn m b), .int .i64 (dn m c)], _, _]) (by simp [results, Try.results15, go_sem, q0, q1, q2]; exact ⟨rfl, rfl⟩) rfl ?_
      rw [hm.out]
      refine ⟨_, rfl, ?_, ?_⟩
      · exact ownsRow_weaken ((ownsRow_setCell_below (ownsRow_setCell_below (ownsRow_setCell_below hown (a := ⟨w.heap.size + 1, 0, none⟩) (by simp) _) (a := ⟨w.heap.size + 1, 1, none⟩) (by simp) _) (a := ⟨w.heap.size + 1, 2, none⟩) (by simp) _).alloc _) (by omega)
      · go_grown
    · go_enter Try.func15, Try.ntmps15
      go_wp2_with (go_at_call 14; go_call first_any a b c _ as e w1 ⟨rfl, rfl⟩)
      go_call down_any a b c m _ ha hb hc (by omega) (by omega) as e w1 ⟨v, rfl, hown, hbel⟩
      have hres := heap_below hbel (heap_alloc_at (heap_alloc_top (w.alloc (.cells #[.int .i64 a, .int .i64 b, .int .i64 c] 24)) _ (w.heap.size + 1) (by simp)) _) (by simp)
      have hbel' : Below w.heap.size w w1 := Below.trans (by go_grown) (hbel.mono (by simp; omega))
      have hz := ltOf hres
      have r0 := cellOf hres 0 rfl
      have r1 := cellOf hres 1 rfl
      have r2 := cellOf hres 2 rfl
      have f0 := frozenOf hres 0
      have f1 := frozenOf hres 1
      have f2 := frozenOf hres 2
      obtain ⟨ad, cap, rfl⟩ := ownsRow_slice hown
      simp at hown
      clear hbel
      have HR := hidp hres
      clear hres
      go_wp2
      have hthree := heap_alloc_at (three_set HR.out (.int .i64 (dn m a)) (.int .i64 (dn m b)) (.int .i64 (dn m c))) (.cells #[.int .i64 (dn m a), .int .i64 (dn m b), .int .i64 (dn m c)] 24)
      have q0 := cellOf hthree 0 rfl
      have q1 := cellOf hthree 1 rfl
      have q2 := cellOf hthree 2 rfl
      refine bodyPost_ret (v := .tuple #[.agg #[.int .i64 (dn m a), .int .i64 (dn m b), .int .i64 (dn m c)], _, _]) (by simp [results, Try.results15, go_sem, q0, q1, q2]; exact ⟨rfl, rfl⟩) rfl ?_
      rw [hm.out]
      refine ⟨_, rfl, ?_, ?_⟩
      · exact ownsRow_weaken ((ownsRow_setCell_below (ownsRow_setCell_below (ownsRow_setCell_below hown (a := ⟨w.heap.size + 1, 0, none⟩) (by simp) _) (a := ⟨w.heap.size + 1, 1, none⟩) (by simp) _) (a := ⟨w.heap.size + 1, 2, none⟩) (by simp) _).alloc _) (by omega)
      · go_grown
    · have HM := hidp hmf
      clear hmf
      go_enter Try.func15, Try.ntmps15
      go_wp2_with (go_at_call 14; go_call first_any a b c _ as e w1 ⟨rfl, rfl⟩)
      rw [← HM.out]
      go_call down_any a b c m _ ha hb hc (by omega) (by omega) as e w1 ⟨v, rfl, hown, hbel⟩
      have hres := heap_below hbel (heap_alloc_at (heap_alloc_top (w.alloc (.cells #[.int .i64 a, .int .i64 b, .int .i64 c] 24)) _ (w.heap.size + 1) (by simp)) _) (by simp)
      have hbel' : Below w.heap.size w w1 := Below.trans (by go_grown) (hbel.mono (by simp; omega))
      have hz := ltOf hres
      have r0 := cellOf hres 0 rfl
      have r1 := cellOf hres 1 rfl
      have r2 := cellOf hres 2 rfl
      have f0 := frozenOf hres 0
      have f1 := frozenOf hres 1
      have f2 := frozenOf hres 2
      obtain ⟨ad, cap, rfl⟩ := ownsRow_slice hown
      simp at hown
      clear hbel
      have HR := hidp hres
      clear hres
      go_wp2
      have hthree := heap_alloc_at (three_set HR.out (.int .i64 (dn m a)) (.int .i64 (dn m b)) (.int .i64 (dn m c))) (.cells #[.int .i64 (dn m a), .int .i64 (dn m b), .int .i64 (dn m c)] 24)
      have q0 := cellOf hthree 0 rfl
      have q1 := cellOf hthree 1 rfl
      have q2 := cellOf hthree 2 rfl
      refine bodyPost_ret (v := .tuple #[.agg #[.int .i64 (dn m a), .int .i64 (dn m b), .int .i64 (dn m c)], _, _]) (by simp [results, Try.results15, go_sem, q0, q1, q2]; exact ⟨rfl, rfl⟩) rfl ?_
      rw [hm.out]
      refine ⟨_, rfl, ?_, ?_⟩
      · exact ownsRow_weaken ((ownsRow_setCell_below (ownsRow_setCell_below (ownsRow_setCell_below hown (a := ⟨w.heap.size + 1, 0, none⟩) (by simp) _) (a := ⟨w.heap.size + 1, 1, none⟩) (by simp) _) (a := ⟨w.heap.size + 1, 2, none⟩) (by simp) _).alloc _) (by omega)
      · go_grown
end Go.Proofs.Ytefnbmggokfanaa
