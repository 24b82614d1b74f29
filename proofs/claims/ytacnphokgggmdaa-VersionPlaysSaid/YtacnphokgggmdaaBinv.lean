/- What holds of a store that commits 7, 14, .. and of the versions that are held; no program in sight. -/
import Derived.Test.YtacnphokgggmdaaSt
namespace Go.Proofs.Ytacnphokgggmdaa
open Go.RowKit

/-- how many different ones there are in a list -/
def dist : List Int → Nat
  | [] => 0
  | x :: t => dist t + if x ∈ t then 0 else 1
theorem dist_le : ∀ l : List Int, dist l ≤ l.length
  | [] => Nat.le_refl _
  | x :: t => by have := dist_le t; simp only [dist, List.length_cons]; split <;> omega
theorem dist_snoc (l : List Int) (x : Int) : dist (l ++ [x]) = dist l + if x ∈ l then 0 else 1 := by
  induction l with
  | nil => simp [dist]
  | cons y t ih =>
    simp only [List.cons_append, dist, ih, List.mem_append, List.mem_cons, List.not_mem_nil, or_false]
    by_cases hy : y ∈ t <;> by_cases hx : x ∈ t <;> by_cases hxy : x = y
    all_goals (try subst hxy) <;> simp_all <;> (try omega)
    all_goals (rw [if_neg (fun e => hxy e.symm)])

structure BInv (s : St) (n : Int) (H : List Int) : Prop where
  head : s.head = n
  rng : ∀ x ∈ H, 0 ≤ x ∧ x ≤ n
  g : ∀ k, s.g k = if k = n ∨ k ∈ H then some (.int .i64 (7 * k), (H.count k : Int)) else none
  n : s.n = dist H + if n ∈ H then 0 else 1

theorem BInv.pins {s : St} {n : Int} {H : List Int} (h : BInv s n H) (k : Int) : s.pins k = H.count k := by
  unfold St.pins
  rw [h.g k]
  by_cases hk : k = n ∨ k ∈ H
  · rw [if_pos hk]; rfl
  · rw [if_neg hk]
    have : H.count k = 0 := List.count_eq_zero.2 (fun e => hk (.inr e))
    rw [this]; rfl
theorem BInv.val {s : St} {n : Int} {H : List Int} (h : BInv s n H) {k : Int} (hk : k = n ∨ k ∈ H) (z : Value) : s.val z k = .int .i64 (7 * k) := by
  unfold St.val
  rw [h.g k, if_pos hk]; rfl
theorem BInv.got {s : St} {n : Int} {H : List Int} (h : BInv s n H) {k : Int} (hk : k = n ∨ k ∈ H) : (s.g k).isSome = true := by
  rw [h.g k, if_pos hk]; rfl
theorem BInv.live {s : St} {n : Int} {H : List Int} (h : BInv s n H) : 1 ≤ s.n ∧ s.n ≤ H.length + 1 := by
  have hd := dist_le H
  have hn := h.n
  constructor
  · by_cases hm : n ∈ H
    · have : 1 ≤ dist H := by
        cases hH : H with
        | nil => rw [hH] at hm; cases hm
        | cons x t => 
          clear hn hd h
          have : ∀ l : List Int, l ≠ [] → 1 ≤ dist l := by
            intro l
            induction l with
            | nil => intro h; exact absurd rfl h
            | cons y r ih =>
              intro _
              cases r with
              | nil => simp [dist]
              | cons a b => have := ih (by simp); simp only [dist] at this ⊢; omega
          exact this _ (by simp)
      omega
    · rw [if_neg hm] at hn; omega
  · split at hn <;> omega
theorem BInv.start : BInv { head := 0, g := fun j => if j = 0 then some (.int .i64 0, 0) else none, n := 1 } 0 [] :=
  ⟨rfl, by simp, fun k => by by_cases hk : k = 0 <;> simp [hk], by simp [dist]⟩
theorem BInv.commit {s : St} {n : Int} {H : List Int} (h : BInv s n H) : BInv (s.commit (.int .i64 (7 * (n + 1)))) (n + 1) H := by
  have hn1 : ¬ (n + 1 ∈ H) := fun e => by have := (h.rng _ e).2; omega
  have hgn1 : s.g (n + 1) = none := by rw [h.g, if_neg]; rintro (e | e); · omega
                                       · exact hn1 e
  have hp := h.pins n
  have hh := h.head
  have hgn := h.got (k := n) (.inl rfl)
  unfold St.commit St.tidy
  by_cases hm : n ∈ H
  · have hc : 0 < H.count n := List.count_pos_iff.2 hm
    rw [if_neg (by
      rintro ⟨_, e⟩
      simp only [St.put, St.pins, hh] at e
      rw [if_neg (by omega)] at e
      have : s.pins n = 0 := e
      omega)]
    refine ⟨by simp [St.put, hh], fun x hx => ?_, fun k => ?_, ?_⟩
    · have := h.rng x hx; omega
    · simp only [St.put, hh]
      by_cases hk : k = n + 1
      · subst hk
        have : H.count (n + 1) = 0 := List.count_eq_zero.2 hn1
        simp [this]
      · rw [if_neg hk, h.g k]
        by_cases hkn : k = n
        · subst hkn; simp [hm]
        · simp [hk, hkn]
    · simp only [St.put, hh, hgn1, Option.isSome_none, Bool.false_eq_true, if_false]
      rw [h.n, if_pos hm, if_neg hn1]
  · have hc : H.count n = 0 := List.count_eq_zero.2 hm
    rw [if_pos (by
      refine ⟨by simp [St.put]; omega, ?_⟩
      simp only [St.put, St.pins, hh]
      rw [if_neg (by omega)]
      have : s.pins n = 0 := by rw [hp, hc]; rfl
      exact this)]
    refine ⟨by simp [St.put, St.drop, hh], fun x hx => ?_, fun k => ?_, ?_⟩
    · have := h.rng x hx; omega
    · simp only [St.put, St.drop, hh]
      by_cases hkn : k = n
      · subst hkn; rw [if_pos rfl, if_neg]; rintro (e | e)
        · omega
        · exact hm e
      · rw [if_neg hkn]
        by_cases hk : k = n + 1
        · subst hk
          have : H.count (n + 1) = 0 := List.count_eq_zero.2 hn1
          simp [this]
        · rw [if_neg hk, h.g k]; simp [hk, hkn]
    · simp only [St.put, St.drop, hh, hgn1, Option.isSome_none, Bool.false_eq_true, if_false]
      rw [if_neg (show ¬ n = n + 1 by omega), hgn, if_pos rfl, h.n, if_neg hm, if_neg hn1]; omega
theorem BInv.pin {s : St} {n : Int} {H : List Int} (h : BInv s n H) (h0 : 0 ≤ n) (z : Value) : BInv (s.pin z) n (H ++ [n]) := by
  have hgn := h.got (k := n) (.inl rfl)
  have hv := h.val (k := n) (.inl rfl) z
  have hp := h.pins n
  have hh := h.head
  unfold St.pin
  refine ⟨by simp [St.put, hh], fun x hx => ?_, fun k => ?_, ?_⟩
  · rw [List.mem_append, List.mem_singleton] at hx
    rcases hx with hx | rfl
    · exact h.rng x hx
    · omega
  · simp only [St.put, hh, hv, hp]
    by_cases hk : k = n
    · subst hk; simp
    · rw [if_neg hk, h.g k]
      have hk' : ¬ n = k := fun e => hk e.symm
      simp [hk, List.count_append, hk']
  · simp only [St.put, hh, hgn, if_true]
    rw [h.n, dist_snoc]
    simp
theorem BInv.release {s : St} {n x : Int} {t : List Int} (h : BInv s n (x :: t)) (z : Value) : BInv (s.release z x) n t := by
  have hx : x = n ∨ x ∈ x :: t := .inr (.head _)
  have hgx := h.got hx
  have hv := h.val hx z
  have hp := h.pins x
  have hh := h.head
  have hcx : (x :: t).count x = t.count x + 1 := List.count_cons_self
  unfold St.release St.tidy
  rw [if_neg (by rw [hp, hcx]; omega)]
  have hput : (s.put x (s.val z x, s.pins x - 1)).pins x = t.count x := by
    simp only [St.put, St.pins, if_true, Option.map_some, Option.getD_some]
    have := hp; unfold St.pins at this; rw [this, hcx]; omega
  have hput' : (s.put x (s.val z x, s.pins x - 1)).head = n := hh
  rw [hput, hput']
  by_cases hd : x ≠ n ∧ (t.count x : Int) = 0
  · rw [if_pos hd]
    obtain ⟨hxn, hc⟩ := hd
    have hxt : x ∉ t := List.count_eq_zero.1 (by omega)
    refine ⟨hh, fun y hy => h.rng y (.tail _ hy), fun k => ?_, ?_⟩
    · simp only [St.put, St.drop]
      by_cases hk : k = x
      · subst hk; rw [if_pos rfl, if_neg]; rintro (e | e)
        · exact hxn e
        · exact hxt e
      · rw [if_neg hk, if_neg hk, h.g k]
        have hk' : ¬ x = k := fun e => hk e.symm
        simp [hk, hk']
    · simp only [St.put, St.drop, hgx, if_true]
      have := h.n
      simp only [dist, if_neg hxt] at this
      have hm : (n ∈ x :: t) ↔ n ∈ t := by
        rw [List.mem_cons]
        exact ⟨fun e => e.resolve_left (fun q => hxn q.symm), .inr⟩
      simp only [hm] at this
      simp only [Option.isSome_some, if_true]
      omega
  · rw [if_neg hd]
    refine ⟨hh, fun y hy => h.rng y (.tail _ hy), fun k => ?_, ?_⟩
    · simp only [St.put]
      by_cases hk : k = x
      · subst hk
        rw [if_pos rfl, hv]
        have hin : k = n ∨ k ∈ t := by
          by_cases hkn : k = n
          · exact .inl hkn
          · right
            by_cases hc : t.count k = 0
            · exact absurd ⟨hkn, by omega⟩ hd
            · exact List.count_pos_iff.1 (by omega)
        rw [if_pos hin, hp, hcx]
        congr 2; omega
      · rw [if_neg hk, h.g k]
        have hk' : ¬ x = k := fun e => hk e.symm
        simp [hk, hk']
    · simp only [St.put, hgx, if_true]
      have := h.n
      rw [this]
      simp only [dist]
      by_cases hxn : x = n
      · subst hxn; simp
      · have hin : x ∈ t := by
          by_cases hc : t.count x = 0
          · exact absurd ⟨hxn, by omega⟩ hd
          · exact List.count_pos_iff.1 (by omega)
        have hm : (n ∈ x :: t) ↔ n ∈ t := by
          rw [List.mem_cons]
          exact ⟨fun e => e.resolve_left (fun q => hxn q.symm), .inr⟩
        simp only [hm, if_pos hin]
        omega
end Go.Proofs.Ytacnphokgggmdaa
