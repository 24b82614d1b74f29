/- Updates: what is told of prefixes that do not stand in them; what stands in the list of what changed. -/
import Derived.Test.YtnenpfalhbbadaaTB
import Derived.Test.YtnenpfalhbbadaaQU
namespace Go.Proofs.Ytnenpfalhbbadaa
open Go.RowKit
open Go.Lib (compactUpTo keeps)

theorem delL_facts (p : Pf) : ∀ (l : List Pf) (A : Ab) (n : Int), WF A → WF (delL A n l).1 ∧ (p ∉ l → getA (delL A n l).1 p = getA A p) ∧ n - l.length ≤ (delL A n l).2 ∧ (delL A n l).2 ≤ n
  | [], A, n, h => ⟨h, fun _ => rfl, by simp [delL], by simp [delL]⟩
  | q :: r, A, n, h => by
    rw [delL]
    split
    · obtain ⟨i1, i2, i3, i4⟩ := delL_facts p r (delA A q) (n - 1) (del_wf q A h).1
      refine ⟨i1, fun hp => ?_, by simp only [List.length_cons]; omega, by omega⟩
      rw [i2 fun hx => hp (List.mem_cons_of_mem _ hx), getA_del q p (fun e => hp (by rw [e]; exact List.mem_cons_self)) A h]
    · obtain ⟨i1, i2, i3, i4⟩ := delL_facts p r A n h
      exact ⟨i1, fun hp => i2 fun hx => hp (List.mem_cons_of_mem _ hx), by simp only [List.length_cons]; omega, i4⟩
theorem putL_facts (v : Att) (lim : Int) (p : Pf) : ∀ (l : List Pf) (A : Ab) (n : Int), WF A → (∀ q ∈ l, q.ok) → WF (putL v lim A n l).1 ∧ (p ∉ l → getA (putL v lim A n l).1 p = getA A p) ∧ n ≤ (putL v lim A n l).2.1 ∧ (putL v lim A n l).2.1 ≤ n + l.length
  | [], A, n, h, _ => ⟨h, fun _ => rfl, by simp [putL], by simp [putL]⟩
  | q :: r, A, n, h, ho => by
    have ho2 : ∀ x ∈ r, x.ok := fun x hx => ho x (List.mem_cons_of_mem _ hx)
    rw [putL]
    split
    · rename_i hq
      have oq := ho q List.mem_cons_self
      have hw := (put_wf q v hq oq A h).1
      have hg : p ∉ q :: r → getA (putA A q v) p = getA A p := fun hp => getA_put q p v hq oq (fun e => hp (by rw [e]; exact List.mem_cons_self)) A h
      split
      · obtain ⟨i1, i2, i3, i4⟩ := putL_facts v lim p r (putA A q v) n hw ho2
        exact ⟨i1, fun hp => by rw [i2 fun hx => hp (List.mem_cons_of_mem _ hx), hg hp], i3, by simp only [List.length_cons]; omega⟩
      · split
        · exact ⟨h, fun _ => rfl, Int.le_refl _, by simp only [List.length_cons]; omega⟩
        · obtain ⟨i1, i2, i3, i4⟩ := putL_facts v lim p r (putA A q v) (n + 1) hw ho2
          exact ⟨i1, fun hp => by rw [i2 fun hx => hp (List.mem_cons_of_mem _ hx), hg hp], by omega, by simp only [List.length_cons]; omega⟩
    · obtain ⟨i1, i2, i3, i4⟩ := putL_facts v lim p r A n h ho2
      exact ⟨i1, fun hp => i2 fun hx => hp (List.mem_cons_of_mem _ hx), i3, by simp only [List.length_cons]; omega⟩
structure UpdF (A : Ab) (n lim : Int) (u : Upd) (p : Pf) : Prop where
  wf : WF (updA A n lim u).1
  same : p ∉ u.gone ++ u.news → getA (updA A n lim u).1 p = getA A p
  lo : n - u.gone.length ≤ (updA A n lim u).2.1
  hi : (updA A n lim u).2.1 ≤ n + u.news.length
theorem updA_facts (A : Ab) (n lim : Int) (u : Upd) (p : Pf) (h : WF A) (ho : ∀ q ∈ u.news, q.ok) : UpdF A n lim u p := by
  obtain ⟨d1, d2, d3, d4⟩ := delL_facts p u.gone A n h
  obtain ⟨e1, e2, e3, e4⟩ := putL_facts u.att lim p u.news (delL A n u.gone).1 (delL A n u.gone).2 d1 ho
  exact ⟨e1, fun hp => by unfold updA; rw [e2 fun hx => hp (List.mem_append_right _ hx), d2 fun hx => hp (List.mem_append_left _ hx)], by unfold updA; omega, by unfold updA; omega⟩
theorem compact_has (d : Array Pf) : ∀ i, i < d.size → d[i]! ∈ compactUpTo d d.size
  | i, hi => by
    by_cases hk : keeps d i = true
    · unfold compactUpTo
      exact List.mem_map.2 ⟨i, List.mem_filter.2 ⟨List.mem_range.2 hi, hk⟩, rfl⟩
    · have h0 : i ≠ 0 ∧ d[i]! = d[i - 1]! := by
        unfold keeps at hk
        simp at hk
        exact hk
      rw [h0.2]
      exact compact_has d (i - 1) (by omega)
  termination_by i => i
theorem diffL_iff (f : Pf → Bool) (l : List Pf) (p : Pf) : p ∈ diffL f l ↔ p ∈ l ∧ f p = true := by
  constructor
  · exact diffL_mem
  · intro h
    have h1 : p ∈ sortP (l.filter f) := sortP_mem.2 (List.mem_filter.2 h)
    obtain ⟨i, hi, e⟩ := List.mem_iff_getElem.1 h1
    have := compact_has (sortP (l.filter f)).toArray i (by simpa using hi)
    rw [show (sortP (l.filter f)).toArray[i]! = p by simp [hi, e]] at this
    unfold diffL
    simpa using this
theorem sameA_refl (a : Att) : sameA a a = true := by simp [sameA]
theorem getA_no {A : Ab} {p : Pf} {a : Att} (h : getA A p = (a, false)) : a = att0 := by
  unfold getA at h
  split at h
  · cases h
  · cases h; rfl
/-- something else is told just if the prefix stands in the list -/
theorem tells_iff (A A' : Ab) (l : List Pf) (p : Pf) (hs : p ∉ l → getA A' p = getA A p) : ((getA A p).2 != (getA A' p).2 || !sameA (getA A p).1 (getA A' p).1) = decide (p ∈ diffL (otherA A A') l) := by
  by_cases hp : p ∈ l
  · have e : decide (p ∈ diffL (otherA A A') l) = otherA A A' p := by
      cases h : otherA A A' p with
      | true => exact decide_eq_true ((diffL_iff _ _ _).2 ⟨hp, h⟩)
      | false => exact decide_eq_false fun hx => by have := ((diffL_iff _ _ _).1 hx).2; rw [h] at this; cases this
    rw [e]
    unfold otherA
    obtain ⟨a, was, h1⟩ : ∃ a was, getA A p = (a, was) := ⟨_, _, rfl⟩
    obtain ⟨b, is, h2⟩ : ∃ b is, getA A' p = (b, is) := ⟨_, _, rfl⟩
    rw [h1, h2]
    cases was with
    | true => cases is <;> simp
    | false =>
      cases is with
      | true => simp
      | false => rw [getA_no h1, getA_no h2]; simp [sameA_refl]
  · rw [hs hp, decide_eq_false fun hx => hp ((diffL_iff _ _ _).1 hx).1]
    simp [sameA_refl]
end Go.Proofs.Ytnenpfalhbbadaa
