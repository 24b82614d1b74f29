/- How the store of the program and the reference's two lists hang together; no program in sight. -/
import Derived.Test.YtacnphokgggmdaaVR
import Derived.Test.YtacnphokgggmdaaSt
namespace Go.Proofs.Ytacnphokgggmdaa
open Go.RowKit

def cntB (p : Nat → Bool) (j : Nat) : Nat := ((List.range j).filter p).length
theorem cntB_succ (p : Nat → Bool) (j : Nat) : cntB p (j + 1) = cntB p j + if p j then 1 else 0 := by
  unfold cntB
  rw [List.range_succ, List.filter_append, List.length_append]
  by_cases h : p j = true <;> simp [h]
theorem cntB_congr {p p' : Nat → Bool} : ∀ (j : Nat), (∀ i, i < j → p i = p' i) → cntB p j = cntB p' j
  | 0, _ => rfl
  | j + 1, h => by rw [cntB_succ, cntB_succ, cntB_congr j (fun i hi => h i (by omega)), h j (by omega)]
theorem cntB_change {p p' : Nat → Bool} {k : Nat} : ∀ (j : Nat), k < j → (∀ i, i < j → i ≠ k → p i = p' i) → cntB p j + (if p' k then 1 else 0) = cntB p' j + (if p k then 1 else 0)
  | 0, h, _ => by omega
  | j + 1, hk, h => by
    rw [cntB_succ, cntB_succ]
    by_cases hkj : k = j
    · subst hkj
      rw [cntB_congr k (fun i hi => h i (by omega) (by omega))]
      omega
    · have := cntB_change j (by omega) (fun i hi hne => h i (by omega) hne)
      rw [h j (by omega) (fun e => hkj e.symm)]
      omega

structure PInv (s : St) (A Q : List Int) (N : Int) : Prop where
  pos : 0 < A.length
  len : A.length = Q.length
  head : s.head = (A.length : Int) - 1
  g : ∀ k, s.g k = if 0 ≤ k ∧ k < A.length ∧ liveAt A.length Q k.toNat = true then some (.int .i64 (A.getD k.toNat 0), Q.getD k.toNat 0) else none
  n : s.n = cntB (liveAt A.length Q) A.length
  rng : ∀ q ∈ Q, 0 ≤ q ∧ q ≤ N

theorem getD_mem {Q : List Int} {j : Nat} (h : j < Q.length) : Q.getD j 0 ∈ Q := by
  rw [List.getD_eq_getElem?_getD, List.getElem?_eq_getElem h]; exact List.getElem_mem h
theorem PInv.pins {s : St} {A Q : List Int} {N : Int} (h : PInv s A Q N) (k : Int) : s.pins k = if 0 ≤ k ∧ k < A.length then Q.getD k.toNat 0 else 0 := by
  unfold St.pins
  rw [h.g k]
  by_cases hk : 0 ≤ k ∧ k < A.length
  · rw [if_pos hk]
    by_cases hl : liveAt A.length Q k.toNat = true
    · rw [if_pos ⟨hk.1, hk.2, hl⟩]; rfl
    · rw [if_neg (fun e => hl e.2.2)]
      unfold liveAt at hl
      simp at hl
      show (0 : Int) = _
      rw [List.getD_eq_getElem?_getD]
      exact hl.1.symm
  · rw [if_neg hk, if_neg (fun e => hk ⟨e.1, e.2.1⟩)]; rfl
theorem PInv.at_ {s : St} {A Q : List Int} {N : Int} (h : PInv s A Q N) (k : Int) : s.val (.int .i64 0) k = .int .i64 (rAt A Q k).1 ∧ (s.g k).isSome = (rAt A Q k).2 := by
  unfold St.val rAt
  rw [h.g k]
  by_cases hk : 0 ≤ k ∧ k < A.length ∧ liveAt A.length Q k.toNat = true
  · rw [if_pos hk, if_pos hk]; exact ⟨rfl, rfl⟩
  · rw [if_neg hk, if_neg hk]; exact ⟨rfl, rfl⟩
theorem PInv.rHead {s : St} {A Q : List Int} {N : Int} (h : PInv s A Q N) : rAt A Q s.head = (A.getD (A.length - 1) 0, true) := by
  have hp := h.pos
  unfold rAt
  rw [h.head, show ((A.length : Int) - 1).toNat = A.length - 1 by omega]
  rw [if_pos ⟨by omega, by omega, by simp [liveAt]; omega⟩]
theorem PInv.start (x : Int) : PInv { head := 0, g := fun j => if j = 0 then some (.int .i64 x, 0) else none, n := 1 } [x] [0] 0 := by
  refine ⟨by simp, rfl, by simp, fun k => ?_, by simp [cntB, List.range_succ, liveAt], by simp⟩
  show (if k = 0 then _ else _) = _
  by_cases hk : k = 0
  · subst hk; simp [liveAt]
  · rw [if_neg hk, if_neg]; simp; omega

theorem liveAt_old {L : Nat} {Q : List Int} (hL : L = Q.length) (j : Nat) (hj : j < L) : liveAt (L + 1) (Q ++ [0]) j = (Q.getD j 0 != 0) := by
  unfold liveAt
  have e : (Q ++ [0]).getD j 0 = Q.getD j 0 := by simp [List.getD, List.getElem?_append, show j < Q.length by omega]
  rw [e]
  have : (j + 1 == L + 1) = false := by simp; omega
  rw [this, Bool.or_false]

theorem PInv.commit {s : St} {A Q : List Int} {N : Int} (h : PInv s A Q N) (hN : 0 ≤ N) (x : Int) : PInv (s.commit (.int .i64 x)) (A ++ [x]) (Q ++ [0]) N := by
  have hpos := h.pos
  have hlen := h.len
  have hh := h.head
  have hgL : s.g ((A.length : Int)) = none := by rw [h.g, if_neg]; rintro ⟨_, e, _⟩; omega
  have hpl := h.pins s.head
  rw [hh, if_pos ⟨by omega, by omega⟩, show ((A.length : Int) - 1).toNat = A.length - 1 by omega] at hpl
  have hlast : liveAt A.length Q (A.length - 1) = true := by unfold liveAt; simp; omega
  have hgl : (s.g ((A.length : Int) - 1)).isSome = true := by
    rw [h.g, show ((A.length : Int) - 1).toNat = A.length - 1 by omega, if_pos ⟨by omega, by omega, hlast⟩]; rfl
  have hrng : ∀ q ∈ Q ++ [0], 0 ≤ q ∧ q ≤ N := by
    intro q hq
    rw [List.mem_append, List.mem_singleton] at hq
    rcases hq with hq | rfl
    · exact h.rng q hq
    · omega
  have hg' : ∀ k : Int, (if 0 ≤ k ∧ k < ((A ++ [x]).length : Int) ∧ liveAt (A ++ [x]).length (Q ++ [0]) k.toNat = true then some (Value.int .i64 ((A ++ [x]).getD k.toNat 0), (Q ++ [0]).getD k.toNat 0) else none) =
      if k = A.length then some (.int .i64 x, 0) else if k = (A.length : Int) - 1 ∧ Q.getD (A.length - 1) 0 = 0 then none else s.g k := by
    intro k
    simp only [List.length_append, List.length_singleton]
    by_cases hk : k = A.length
    · subst hk
      rw [if_pos rfl, if_pos]
      · rw [Int.toNat_natCast]
        simp [List.getD, hlen]
      · refine ⟨by omega, by omega, ?_⟩
        rw [Int.toNat_natCast]; simp [liveAt]
    · rw [if_neg hk]
      by_cases hr : 0 ≤ k ∧ k < A.length
      · have hlo := liveAt_old hlen k.toNat (by omega)
        have e1 : (A ++ [x]).getD k.toNat 0 = A.getD k.toNat 0 := by simp [List.getD, List.getElem?_append, show k.toNat < A.length by omega]
        have e2 : (Q ++ [0]).getD k.toNat 0 = Q.getD k.toNat 0 := by simp [List.getD, List.getElem?_append, show k.toNat < Q.length by omega]
        rw [hlo, e1, e2, h.g k]
        by_cases hq : Q.getD k.toNat 0 = 0
        · have hb : (Q.getD k.toNat 0 != 0) = false := by rw [hq]; rfl
          rw [hb, if_neg (by simp)]
          by_cases hkl : k = (A.length : Int) - 1
          · have hq' : Q.getD (A.length - 1) 0 = 0 := by rw [hkl, show ((A.length : Int) - 1).toNat = A.length - 1 by omega] at hq; exact hq
            rw [if_pos ⟨hkl, hq'⟩]
          · rw [if_neg (fun e => hkl e.1), if_neg]
            rintro ⟨_, _, e⟩
            unfold liveAt at e
            rw [hb, Bool.false_or, beq_iff_eq] at e
            omega
        · have hb : (Q.getD k.toNat 0 != 0) = true := by simpa using hq
          rw [hb, if_pos ⟨hr.1, by omega, rfl⟩, if_neg, if_pos]
          · refine ⟨hr.1, hr.2, ?_⟩
            unfold liveAt; rw [hb]; rfl
          · rintro ⟨e, e'⟩
            apply hq
            rw [e, show ((A.length : Int) - 1).toNat = A.length - 1 by omega]; exact e'
      · rw [if_neg (by rintro ⟨e1, e2, _⟩; omega), if_neg (by rintro ⟨e, _⟩; omega), h.g k, if_neg (fun e => hr ⟨e.1, e.2.1⟩)]
  have hcnt : cntB (liveAt (A ++ [x]).length (Q ++ [0])) (A ++ [x]).length = s.n + if Q.getD (A.length - 1) 0 = 0 then 0 else 1 := by
    simp only [List.length_append, List.length_singleton]
    rw [cntB_succ]
    have e1 : liveAt (A.length + 1) (Q ++ [0]) A.length = true := by simp [liveAt]
    rw [e1, if_pos rfl]
    have hc := cntB_change (p := liveAt (A.length + 1) (Q ++ [0])) (p' := liveAt A.length Q) (k := A.length - 1) A.length (by omega) (fun i hi hne => by
      rw [liveAt_old hlen i hi]
      unfold liveAt
      have : (i + 1 == A.length) = false := by simp; omega
      rw [this, Bool.or_false])
    rw [hlast, if_pos rfl, liveAt_old hlen (A.length - 1) (by omega), ← h.n] at hc
    by_cases hq : Q.getD (A.length - 1) 0 = 0
    · rw [if_pos hq]
      have hb : (Q.getD (A.length - 1) 0 != 0) = false := by rw [hq]; rfl
      rw [hb, if_neg (by simp)] at hc
      omega
    · rw [if_neg hq]
      have hb : (Q.getD (A.length - 1) 0 != 0) = true := by simpa using hq
      rw [hb, if_pos rfl] at hc
      omega
  unfold St.commit St.tidy
  have hpl' : (({ s with head := s.head + 1 } : St).put (s.head + 1) (.int .i64 x, 0)).pins s.head = Q.getD (A.length - 1) 0 := by
    rw [← hpl]
    simp only [St.put, St.pins]
    rw [if_neg (by omega), hh]
  rw [hpl']
  by_cases hq : Q.getD (A.length - 1) 0 = 0
  · rw [if_pos ⟨by simp [St.put]; omega, hq⟩]
    refine ⟨by simp, by simp [hlen], by simp [St.put, St.drop, hh], fun k => ?_, ?_, hrng⟩
    · rw [hg' k]
      simp only [St.put, St.drop, hh]
      by_cases hk : k = A.length
      · subst hk
        rw [if_neg (by omega), if_pos (by omega), if_pos rfl]
      · rw [if_neg hk]
        by_cases hkl : k = (A.length : Int) - 1
        · rw [if_pos hkl, if_pos ⟨hkl, hq⟩]
        · rw [if_neg hkl, if_neg (by omega), if_neg (fun e => hkl e.1)]
    · rw [hcnt, if_pos hq]
      simp only [St.put, St.drop, hh, show (A.length : Int) - 1 + 1 = A.length by omega, hgL, Option.isSome_none, Bool.false_eq_true, if_false]
      rw [if_neg (show ¬ (A.length : Int) - 1 = A.length by omega), hgl, if_pos rfl]; omega
  · rw [if_neg (fun e => hq e.2)]
    refine ⟨by simp, by simp [hlen], by simp [St.put, hh], fun k => ?_, ?_, hrng⟩
    · rw [hg' k]
      simp only [St.put, hh]
      by_cases hk : k = A.length
      · subst hk
        rw [if_pos (by omega), if_pos rfl]
      · rw [if_neg hk, if_neg (by omega), if_neg (fun e => hq e.2)]
    · rw [hcnt, if_neg hq]
      simp only [St.put, hh, show (A.length : Int) - 1 + 1 = A.length by omega, hgL, Option.isSome_none, Bool.false_eq_true, if_false]

/-- Q with place j turned: what is live, how many. -/
theorem liveAt_set {L : Nat} {Q : List Int} (j : Nat) (y : Int) (i : Nat) : liveAt L (Q.set j y) i = if i = j ∧ j < Q.length then (y != 0 || i + 1 == L) else liveAt L Q i := by
  unfold liveAt
  by_cases h : i = j ∧ j < Q.length
  · obtain ⟨rfl, hl⟩ := h
    rw [if_pos ⟨rfl, hl⟩]
    simp [List.getD, hl]
  · rw [if_neg h]
    have : (Q.set j y).getD i 0 = Q.getD i 0 := by
      simp only [List.getD, List.getElem?_set]
      by_cases hij : j = i
      · subst hij
        rw [if_pos rfl, if_neg (fun e => h ⟨rfl, e⟩), List.getElem?_eq_none (by omega)]
      · rw [if_neg hij]
    rw [this]
theorem getD_set' {Q : List Int} (j : Nat) (y : Int) (i : Nat) (hj : j < Q.length) : (Q.set j y).getD i 0 = if i = j then y else Q.getD i 0 := by
  simp only [List.getD, List.getElem?_set]
  by_cases hij : j = i
  · subst hij; simp [hj]
  · rw [if_neg hij, if_neg (fun e => hij e.symm)]
theorem PInv.turn {s s' : St} {A Q : List Int} {N N' : Int} (h : PInv s A Q N) (j : Nat) (hj : j < A.length) (y : Int) (hy : 0 ≤ y ∧ y ≤ N') (hN : N ≤ N') (hl : liveAt A.length Q j = true)
    (hhead : s'.head = s.head) (hg : ∀ k, s'.g k = if k = j then (if y ≠ 0 ∨ j + 1 = A.length then some (.int .i64 (A.getD j 0), y) else none) else s.g k)
    (hn : s'.n = if y ≠ 0 ∨ j + 1 = A.length then s.n else s.n - 1) : PInv s' A (Q.set j y) N' := by
  have hlen := h.len
  refine ⟨h.pos, by simp [hlen], by rw [hhead]; exact h.head, fun k => ?_, ?_, fun q hq => ?_⟩
  · rw [hg k, h.g k]
    by_cases hk : k = j
    · subst hk
      have e1 : liveAt A.length (Q.set j y) j = (y != 0 || j + 1 == A.length) := by rw [liveAt_set]; exact if_pos ⟨rfl, by omega⟩
      have e2 : (Q.set j y).getD j 0 = y := by rw [getD_set' _ _ _ (by omega)]; exact if_pos rfl
      simp only [Int.toNat_natCast, e1, e2, if_true]
      by_cases hc : y ≠ 0 ∨ j + 1 = A.length
      · rw [if_pos hc, if_pos]
        refine ⟨by omega, by omega, ?_⟩
        rcases hc with hc | hc
        · simp [hc]
        · simp [hc]
      · rw [if_neg hc, if_neg]
        rintro ⟨_, _, e⟩
        simp at e
        exact hc e
    · rw [if_neg hk]
      by_cases hr : 0 ≤ k ∧ k < A.length
      · have hkj : ¬ k.toNat = j := by omega
        have e1 : liveAt A.length (Q.set j y) k.toNat = liveAt A.length Q k.toNat := by rw [liveAt_set]; exact if_neg (fun e => hkj e.1)
        have e2 : (Q.set j y).getD k.toNat 0 = Q.getD k.toNat 0 := by rw [getD_set' _ _ _ (by omega)]; exact if_neg hkj
        simp only [e1, e2]
      · rw [if_neg (fun e => hr ⟨e.1, e.2.1⟩), if_neg (fun e => hr ⟨e.1, e.2.1⟩)]
  · have hc := cntB_change (p := liveAt A.length (Q.set j y)) (p' := liveAt A.length Q) (k := j) A.length hj (fun i hi hne => by rw [liveAt_set]; exact if_neg (fun e => hne e.1))
    have e1 : liveAt A.length (Q.set j y) j = (y != 0 || j + 1 == A.length) := by rw [liveAt_set]; exact if_pos ⟨rfl, by omega⟩
    rw [hl, if_pos rfl, e1, ← h.n] at hc
    rw [hn]
    by_cases hy0 : y ≠ 0 ∨ j + 1 = A.length
    · rw [if_pos hy0]
      have : (y != 0 || j + 1 == A.length) = true := by rcases hy0 with h | h <;> simp [h]
      rw [this, if_pos rfl] at hc
      omega
    · rw [if_neg hy0]
      have : (y != 0 || j + 1 == A.length) = false := by
        rw [Bool.or_eq_false_iff]
        exact ⟨by simpa using fun e => hy0 (.inl e), by simpa using fun e => hy0 (.inr e)⟩
      rw [this] at hc
      simp at hc
      omega
  · rcases List.mem_or_eq_of_mem_set hq with hq | rfl
    · have := h.rng q hq; omega
    · exact hy

theorem PInv.pin {s : St} {A Q : List Int} {N : Int} (h : PInv s A Q N) : PInv (s.pin (.int .i64 0)) A (Q.set (A.length - 1) (Q.getD (A.length - 1) 0 + 1)) (N + 1) := by
  have hpos := h.pos
  have hlen := h.len
  have hh := h.head
  have hlast : liveAt A.length Q (A.length - 1) = true := by unfold liveAt; simp; omega
  have hq := h.rng _ (getD_mem (show A.length - 1 < Q.length by omega))
  have hp := h.pins s.head
  rw [hh, if_pos ⟨by omega, by omega⟩, show ((A.length : Int) - 1).toNat = A.length - 1 by omega] at hp
  have hv := (h.at_ s.head).1
  have hs := (h.at_ s.head).2
  rw [h.rHead] at hv hs
  refine h.turn (A.length - 1) (by omega) _ (by omega) (by omega) hlast rfl (fun k => ?_) ?_
  · simp only [St.pin, St.put, hv]
    rw [if_pos (show Q.getD (A.length - 1) 0 + 1 ≠ 0 ∨ A.length - 1 + 1 = A.length by omega), hh, hp, show ((A.length - 1 : Nat) : Int) = (A.length : Int) - 1 by omega]
  · simp only [St.pin, St.put, hs, if_true]
    rw [if_pos (by omega)]

theorem PInv.release {s : St} {A Q : List Int} {N : Int} (h : PInv s A Q N) (j : Nat) (hj : j < A.length) (hq : 0 < Q.getD j 0) : PInv (s.release (.int .i64 0) j) A (Q.set j (Q.getD j 0 - 1)) N := by
  have hlen := h.len
  have hh := h.head
  have hl : liveAt A.length Q j = true := by unfold liveAt; simp; left; rw [← List.getD_eq_getElem?_getD]; omega
  have hqr := h.rng _ (getD_mem (show j < Q.length by omega))
  have hp := h.pins j
  rw [if_pos ⟨by omega, by omega⟩, Int.toNat_natCast] at hp
  have hr : rAt A Q j = (A.getD j 0, true) := by unfold rAt; rw [Int.toNat_natCast, if_pos ⟨by omega, by omega, hl⟩]
  have hv := (h.at_ j).1
  have hs := (h.at_ j).2
  rw [hr] at hv hs
  have hrel : s.release (.int .i64 0) j = (s.put j (.int .i64 (A.getD j 0), Q.getD j 0 - 1)).tidy j := by
    unfold St.release
    rw [if_neg (by omega), hv, hp]
  have hp2 : (s.put (j : Int) (.int .i64 (A.getD j 0), Q.getD j 0 - 1)).pins j = Q.getD j 0 - 1 := by
    simp only [St.put, St.pins, if_true, Option.map_some, Option.getD_some]
  have htidy : (s.put (j : Int) (.int .i64 (A.getD j 0), Q.getD j 0 - 1)).tidy j = if (j : Int) ≠ s.head ∧ Q.getD j 0 - 1 = 0 then (s.put (j : Int) (.int .i64 (A.getD j 0), Q.getD j 0 - 1)).drop j else s.put (j : Int) (.int .i64 (A.getD j 0), Q.getD j 0 - 1) := by
    unfold St.tidy; rw [hp2]; rfl
  by_cases hd : (j : Int) ≠ s.head ∧ Q.getD j 0 - 1 = 0
  · have hc : ¬ (Q.getD j 0 - 1 ≠ 0 ∨ j + 1 = A.length) := by omega
    refine h.turn j hj _ (by omega) (Int.le_refl _) hl ?_ (fun k => ?_) ?_
    · rw [hrel, htidy, if_pos hd]; rfl
    · rw [hrel, htidy, if_pos hd, if_neg hc]
      simp only [St.put, St.drop]
      by_cases hk : k = j
      · rw [if_pos hk, if_pos hk]
      · rw [if_neg hk, if_neg hk, if_neg hk]
    · rw [hrel, htidy, if_pos hd, if_neg hc]
      simp only [St.put, St.drop, if_true, Option.isSome_some, hs]
  · have hc : Q.getD j 0 - 1 ≠ 0 ∨ j + 1 = A.length := by omega
    refine h.turn j hj _ (by omega) (Int.le_refl _) hl ?_ (fun k => ?_) ?_
    · rw [hrel, htidy, if_neg hd]; rfl
    · rw [hrel, htidy, if_neg hd, if_pos hc]
      simp only [St.put]
    · rw [hrel, htidy, if_neg hd, if_pos hc]
      simp only [St.put, if_true, hs]
theorem PInv.mono {s : St} {A Q : List Int} {N N' : Int} (h : PInv s A Q N) (hN : N ≤ N') : PInv s A Q N' :=
  ⟨h.pos, h.len, h.head, h.g, h.n, fun q hq => by have := h.rng q hq; omega⟩
end Go.Proofs.Ytacnphokgggmdaa
