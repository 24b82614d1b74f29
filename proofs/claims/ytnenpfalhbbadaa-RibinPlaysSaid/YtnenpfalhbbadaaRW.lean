/- The example. -/
import Derived.Test.YtnenpfalhbbadaaQL
import Derived.Test.YtnenpfalhbbadaaQV
namespace Go.Proofs.Ytnenpfalhbbadaa
open Go.RowKit

def ap : Pf := ⟨167772160, 8⟩
def aq : Pf := ⟨184549376, 8⟩
def aU (b : Nat) : Upd := ⟨none, 0, 0, att0, some ⟨b, 0, none⟩, 2, 2, [], [ap, aq]⟩
def aA : Ab := .node ap true att0 .nil .nil
theorem putL_cons (v : Att) (lim : Int) (A : Ab) (n : Int) (p : Pf) (r : List Pf) : putL v lim A n (p :: r) = if rightF p = true then (if (getA A p).2 = true then putL v lim (putA A p v) n r else if lim ≤ n then (A, n, true) else putL v lim (putA A p v) (n + 1) r) else putL v lim A n r := rfl
theorem aUp (b : Nat) : updA .nil 0 1 (aU b) = (aA, 1, true) := by
  have h1 : rightF ap = true := by decide
  have h2 : rightF aq = true := by decide
  have h3 : (getA .nil ap).2 = false := rfl
  have h4 : (getA aA aq).2 = false := by kernel_rfl
  show putL att0 1 .nil 0 [ap, aq] = _
  rw [putL_cons, if_pos h1, h3, if_neg (by decide), if_neg (by decide), putL_cons, if_pos h2]
  show (if (getA aA aq).2 = true then _ else _) = _
  rw [h4, if_neg (by decide), if_pos (by decide)]
  rfl
theorem sortP_one (p : Pf) : sortP [p] = [p] := by simp [sortP]
theorem diffL_one (f : Pf → Bool) (p : Pf) (l : List Pf) (h : l.filter f = [p]) : diffL f l = [p] := by
  unfold diffL
  rw [h, sortP_one]
  rfl
theorem aDiff : diffL (otherA .nil aA) ([] ++ [ap, aq]) = [ap] := by
  refine diffL_one _ _ _ ?_
  have h1 : otherA .nil aA ap = true := by kernel_rfl
  have h2 : otherA .nil aA aq = false := by kernel_rfl
  rw [List.nil_append, List.filter_cons, h1, if_pos rfl, List.filter_cons, h2, if_neg (by decide)]
  rfl
theorem aAt (w : World) (W : World) (h : W.heap[w.heap.size]? = some (.cells #[.int .u32 167772160, .int .i64 8, .int .u32 184549376, .int .i64 8] 44 (0, 0))) : (aU w.heap.size).at W := by
  refine ⟨⟨⟨rfl, fun h => absurd h (by show ¬ (0 : Nat) < 0; decide)⟩, rfl, fun p h => (by cases h)⟩, att0_at W, ⟨⟨rfl, fun _ => ⟨_, 0, rfl, fun j x hx => ?_⟩⟩, rfl, fun p h => ?_⟩⟩
  · exact cellOf h (0 + j) (by rw [Nat.zero_add]; simpa [aU, ap, aq, Pf.cells] using hx)
  · have : p = ap ∨ p = aq := by simpa [aU] using h
    rcases this with rfl | rfl <;> (unfold Pf.ok; decide)
set_option maxRecDepth 100000 in
set_option maxHeartbeats 4000000 in
theorem awake_any (w : World) : Calls Try.prog 8 #[] w fun e w' => e = .returned (.bool true) ∧ Below w.heap.size w w' := by
  have HU := hidp aUp
  have HD := hidp aDiff
  go_enter Try.func8, Try.ntmps8
  go_upto_region 2 with (first
    | (go_at_call 9; go_must (
       refine (new_any w 1 _).mono ?_
       rintro e w1 ⟨⟨b, rfl, hb, hI⟩, B1⟩
       have HI := hidp hI
       have HB1 := hidp B1
       have hb2 := (Below.refl w1.heap.size w1).alloc (Nat.le_refl _) (.cells #[.int .u32 167772160, .int .i64 8, .int .u32 184549376, .int .i64 8] 44)
       have HI2 := hidp (hI.below hb2)
       have HB2 := hidp (B1.trans (hb2.mono B1.size))
       have HAT := hidp (aAt w1 _ (heap_alloc_new w1 (.cells #[.int .u32 167772160, .int .i64 8, .int .u32 184549376, .int .i64 8] 44)))
       clear hI B1 hb2 hb))
    | (go_at_call 11; go_must (
       change Calls Try.prog 11 #[.pointer (some ⟨b, 0, none⟩), (aU w1.heap.size).val] (w1.alloc (.cells #[.int .u32 167772160, .int .i64 8, .int .u32 184549376, .int .i64 8] 44)) _
       refine (update_any same45_any w _ .nil 0 1 (aU w1.heap.size) _ HI2.out HAT.out (att0_at w) HB2.out (by show 0 ≤ 500; decide) (by show 2 ≤ 500; decide) (by decide) (by decide)).mono ?_
       rw [HU.out]
       show ∀ e w', UpdE w (aA, 1, true) 1 (otherA .nil aA) ([] ++ [ap, aq]) e w' ∧ _ → _
       intro e w3 ⟨h3, B3⟩
       unfold UpdE at h3
       rw [HD.out] at h3
       obtain ⟨b3, a3, c3, rfl, hI3, hP3⟩ := h3
       have HI3 := hidp hI3
       have HB3 := hidp (HB2.out.trans (B3.mono HB2.out.size))
       obtain ⟨g, o, rfl, hrw⟩ := hP3.row (by decide)
       have c0 := (hrw 0 (by decide)).1
       have c0' : w3.cell? ⟨g, o, none⟩ = some (.int .u32 167772160) := c0
       clear hI3 B3 hP3 hrw c0)))
  go_wp2_with (first
    | (go_at_call 12; go_must (
       refine (len_any w _ aA 1 1 _ HI3.out).mono ?_
       rintro e w4 ⟨rfl, B4⟩
       have HI4 := hidp (HI3.out.below B4)
       have HB4 := hidp (HB3.out.trans (B4.mono HB3.out.size))
       have c1 := below_cell B4 (Nat.le_refl _) _ _ c0'
       clear B4))
    | (go_at_call 17; go_must (
       refine (limit_any w _ aA 1 1 _ HI4.out).mono ?_
       rintro e w5 ⟨rfl, h5⟩
       rw [h5]
       clear h5)))
  go_ret
  exact ⟨rfl, HB4.out⟩
end Go.Proofs.Ytnenpfalhbbadaa
