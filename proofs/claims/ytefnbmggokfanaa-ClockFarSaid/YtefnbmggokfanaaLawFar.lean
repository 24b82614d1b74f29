/- The law ClockFar answers true, whatever clock and number. -/
import Derived.Test.YtefnbmggokfanaaLawSets
namespace Go.Proofs.Ytefnbmggokfanaa
open Go.RowKit

theorem first_dn {a b c m : Int} (h0 : 0 ≤ m) (h : m < fst3 a b c) : fst3 (dn m a) (dn m b) (dn m c) = fst3 a b c - m := by
  have s1 := fst3_spec a b c
  have s2 := fst3_spec (dn m a) (dn m b) (dn m c)
  have d : ∀ x, (x ≤ 0 ∧ dn m x = x) ∨ (0 < x ∧ dn m x = x - m) := by intro x; unfold dn; split <;> omega
  have da := d a
  have db := d b
  have dc := d c
  generalize fst3 (dn m a) (dn m b) (dn m c) = y at *
  generalize fst3 a b c = x at *
  generalize dn m a = a' at *
  generalize dn m b = b' at *
  generalize dn m c = c' at *
  omega
theorem runs_hit {a b c m i : Int} {r : List Int} (h : out3 m a b c 3 = i :: r) : runsB (dn m a) (dn m b) (dn m c) i = false := by
  have d : ∀ x, hitB m x = true → (decide (0 < dn m x)) = false := by
    intro x hx; simp [hitB] at hx; have e : dn m x = 0 := by unfold dn; split <;> omega
    rw [e]; rfl
  unfold out3 at h
  cases ha : hitB m a
  · cases hb : hitB m b
    · cases hc : hitB m c
      · simp [ha, hb, hc] at h
      · simp [ha, hb, hc] at h
        obtain ⟨rfl, _⟩ := h
        simpa [runsB] using d c hc
    · simp [ha, hb] at h
      obtain ⟨rfl, _⟩ := h
      simpa [runsB] using d b hb
  · simp [ha] at h
    obtain ⟨rfl, _⟩ := h
    simpa [runsB] using d a ha

theorem eq22d (d : Nat) (a b c : Int) (w : World) : (Op.equalIn (d + 2) 22 (.agg #[.int .i64 a, .int .i64 b, .int .i64 c]) (.agg #[.int .i64 a, .int .i64 b, .int .i64 c])).run Try.prog w = .ok true w := by
  have u3 := Try.underlying3
  have a3 := Try.isAgg3
  have z3 := Try.sizeOf3
  rw [show d + 2 = (d + 1) + 1 from rfl, Op.equalIn]
  simp only [Sem.run_bind, run_underlying Try.underlying22, Result.andThen_ok]
  simp only [Std.Legacy.Range.forIn_eq_forIn_range', Std.Legacy.Range.size, Nat.sub_zero, Nat.add_sub_cancel, Nat.div_one, List.range'_succ, List.range'_zero, List.forIn_cons, List.forIn_nil]
  go_simp
theorem eq24 (a b c : Int) (w : World) : (Op.equalIn 10000 24 (.agg #[.int .i64 a, .int .i64 b, .int .i64 c]) (.agg #[.int .i64 a, .int .i64 b, .int .i64 c])).run Try.prog w = .ok true w := by
  have hS : Try.prog.underlying 24 = some (.struct (Try.prog.fieldsOf 24)) := by kernel_rfl
  have hp : Try.prog.stoodInHeld 24 = false := by kernel_rfl
  have e : (Op.equalIn 9999 22 (.agg #[.int .i64 a, .int .i64 b, .int .i64 c]) (.agg #[.int .i64 a, .int .i64 b, .int .i64 c])).run Try.prog w = .ok true w := eq22d 9997 a b c w
  have hpart : ∀ w, (part 22 #[.int .i64 a, .int .i64 b, .int .i64 c] 0).run Try.prog w = .ok (.agg #[.int .i64 a, .int .i64 b, .int .i64 c]) w := fun _ => by kernel_rfl
  rw [show (10000 : Nat) = 9999 + 1 from rfl, run_equalIn_struct w 9999 24 _ _ hS hp]
  simp only [Program.fieldsOf, Try.underlying24, Op.eqFields]
  rw [if_pos (by decide)]
  simp [Sem.run_bind, hpart, e]

theorem keep4 {W w1 : World} {p0 p1 p2 p3 : Addr} {a b c d : Value} {w : World} (h : W.cell? p0 = some a ∧ W.cell? p1 = some b ∧ W.cell? p2 = some c ∧ W.cell? p3 = some d ∧ Below w.heap.size w W) (hb : Below W.heap.size W w1) :
    w1.cell? p0 = some a ∧ w1.cell? p1 = some b ∧ w1.cell? p2 = some c ∧ w1.cell? p3 = some d ∧ Below w.heap.size w w1 :=
  let k := below_cell hb (Nat.le_refl _)
  ⟨k _ _ h.1, k _ _ h.2.1, k _ _ h.2.2.1, k _ _ h.2.2.2.1, h.2.2.2.2.trans (hb.mono h.2.2.2.2.size)⟩
theorem last4 {W : World} {p0 p1 p2 p3 : Addr} {a b c d : Value} {w : World} (h : W.cell? p0 = some a ∧ W.cell? p1 = some b ∧ W.cell? p2 = some c ∧ W.cell? p3 = some d ∧ Below w.heap.size w W) : Below w.heap.size w W := h.2.2.2.2

set_option maxHeartbeats 4000000 in
theorem far_any (a b c n : Int) (w : World) (ha : a ≤ 9223372036854775807) (hb : b ≤ 9223372036854775807) (hc : c ≤ 9223372036854775807) (hn : 0 ≤ n) (hn' : n ≤ 18446744073709551615) :
    Calls Try.prog 6 #[.agg #[.int .i64 a, .int .i64 b, .int .i64 c], .int .u64 n] w fun e w' => e = .returned (.bool true) ∧ Below w.heap.size w w' := by
  have heq := eq24
  obtain ⟨f, hf⟩ : ∃ f, f = n / 2 := ⟨_, rfl⟩
  have hf1 : 0 ≤ f := by omega
  have hf2 : f ≤ 9223372036854775807 := by omega
  have HF := hidp hf
  clear hf
  have hfst := fst3_nonneg a b c
  have hfstle := fst3_le a b c 9223372036854775807 (by omega) ha hb hc
  go_enter Try.func6, Try.ntmps6
  go_wp2_with fail
  go_call first_any a b c _ as e w1 ⟨rfl, rfl⟩
  go_wp2_with fail
  rw [← HF.out]
  refine (skip_any a b c f _ ha hb hc (by omega)).mono ?_
  rintro e w1 ⟨v, rfl, hown1, hbel1⟩
  obtain ⟨m, hm⟩ : ∃ m, m = skipN a b c f := ⟨_, rfl⟩
  rw [← hm] at hown1 ⊢
  have hx1 := heap_below hbel1 (heap_alloc_at (heap_alloc_top (w.alloc (.cells #[.int .i64 a, .int .i64 b, .int .i64 c] 22)) _ (w.heap.size + 1) (by simp)) _) (by simp)
  have hb1 : Below w.heap.size w w1 := Below.trans (by go_grown) (hbel1.mono (by simp; omega))
  have hz1 := ltOf hx1
  have x0 := cellOf hx1 0 (v := .int .i64 a) rfl
  have x1 := cellOf hx1 1 (v := .int .i64 b) rfl
  have x2 := cellOf hx1 2 (v := .int .i64 c) rfl
  have hle := out3_le m a b c 3
  have HM := hidp hm
  clear hx1 hbel1 hm
  by_cases hf0 : fst3 a b c = 0
  · obtain rfl : m = f := by have := HM.out; unfold skipN at this; split at this <;> omega
    have hnil := out3_none (k := m) (Or.inl hf0)
    have hsp := fst3_spec a b c
    rw [show dn m a = a by unfold dn; split <;> omega, show dn m b = b by unfold dn; split <;> omega, show dn m c = c by unfold dn; split <;> omega]
    rw [hnil] at hown1
    obtain ⟨ad1, cap1, rfl⟩ := ownsRow_slice hown1
    clear hown1 hnil hsp hle
    go_wp2_with fail
    go_call awake_any _ as e w2 ⟨rfl, hbel2⟩
    go_wp2
    go_ret
    exact ⟨rfl, (hb1.alloc (by omega) _).trans (hbel2.mono (by simp; omega))⟩
  · have hpos : 0 < fst3 a b c := by omega
    have hne : (fst3 a b c == 0) = false := by simpa using hf0
    by_cases hlt : f < fst3 a b c
    · obtain rfl : m = f := by have := HM.out; unfold skipN at this; split at this <;> omega
      have hnil := out3_none (k := m) (Or.inr hlt)
      have hfd := first_dn hf1 hlt
      have hwr : IntKind.i64.wrap (fst3 a b c - m) = fst3 a b c - m := IntWalk.i64_in _ (by omega)
      have HD := hidp hfd
      rw [hnil] at hown1
      obtain ⟨ad1, cap1, rfl⟩ := ownsRow_slice hown1
      clear hown1 hnil hle hfd
      go_wp2_with fail
      go_call first_any _ _ _ _ as e w2 ⟨rfl, rfl⟩
      rw [HD.out]
      go_wp2_with fail
      go_call awake_any _ as e w2 ⟨rfl, hbel2⟩
      go_wp2
      go_ret
      exact ⟨rfl, ((hb1.alloc (by omega) _).alloc (by simp; omega) _).trans (hbel2.mono (by simp; omega))⟩
    · have hmf : m = fst3 a b c := by have := HM.out; unfold skipN at this; split at this <;> omega
      have hlen := out3_some (k := m) (by omega) hmf.symm
      obtain ⟨i, r, hir⟩ : ∃ i r, out3 m a b c 3 = i :: r := by
        cases h : out3 m a b c 3 with
        | nil => rw [h] at hlen; simp at hlen
        | cons i r => exact ⟨i, r, rfl⟩
      have hruns := runs_hit hir
      rw [hir] at hown1
      obtain ⟨g, cap, rfl, hg, hglt, hgc⟩ := ownsRow_at hown1 (by simp)
      have hc0 := hgc 0 (.int .i64 i) rfl
      clear hgc hown1 hir hg hlen hle HM
      generalize hL : (i :: r).length = L at *
      have hl0 : (0 : Int) < (L : Int) := by simp at hL; omega
      have hl1 : 0 < L := by omega
      subst hmf
      have hr : ∀ w, Calls Try.prog 9 #[.agg #[.int .i64 (dn (fst3 a b c) a), .int .i64 (dn (fst3 a b c) b), .int .i64 (dn (fst3 a b c) c)], .int .i64 i] w fun e w' => e = .returned (.bool false) ∧ Below w.heap.size w w' := fun w => by
        have h := runs_any (dn (fst3 a b c) a) (dn (fst3 a b c) b) (dn (fst3 a b c) c) i w
        rwa [hruns] at h
      have HR := hidp hr
      clear hr hruns hL r
      go_wp2
      go_region_held3 (fun w' => w'.cell? ⟨w1.heap.size, 0, none⟩ = some (.int .i64 (dn (fst3 a b c) a)) ∧ w'.cell? ⟨w1.heap.size, 1, none⟩ = some (.int .i64 (dn (fst3 a b c) b)) ∧ w'.cell? ⟨w1.heap.size, 2, none⟩ = some (.int .i64 (dn (fst3 a b c) c)) ∧ w'.cell? ⟨g, 0, none⟩ = some (.int .i64 i) ∧ Below w.heap.size w w') (first | exact keep4 (by assumption) (by assumption) | (refine ⟨by simp [go_sem], by simp [go_sem], by simp [go_sem], by simp [go_sem, hglt, hc0], ?_⟩; exact (hb1.alloc (by omega) _).drew))
        (first | (go_at_call 9; refine (HR.out _).mono ?_; rintro e w' ⟨rfl, hb⟩) | (go_at_call 10; refine (awake_any _).mono ?_; rintro e w' ⟨rfl, hb⟩))
      go_wp2
      go_ret
      exact ⟨rfl, last4 (by assumption)⟩
end Go.Proofs.Ytefnbmggokfanaa
