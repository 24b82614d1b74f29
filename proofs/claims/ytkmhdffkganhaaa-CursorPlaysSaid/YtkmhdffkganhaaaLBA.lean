/- For the law CursorBounds: what holds of a table's cursors; no program in sight. -/
import Derived.Test.YtkmhdffkganhaaaCK
namespace Go.Proofs.Ytkmhdffkganhaaa
open Go.RowKit

theorem idxC_spec {p : Cur → Bool} {L : List Cur} {j : Nat} (hj : j < L.length) (h : idxC p L = j) : p L[j] = true := by
  rcases idxC_cases p L with ⟨h1, _⟩ | ⟨i, hi, h1, h2, _⟩
  · omega
  · have : i = j := by omega
    subst this
    exact h2
theorem idxC_mem {p : Cur → Bool} {L : List Cur} {c : Cur} (hc : c ∈ L) (hp : p c = true) : idxC p L ≠ -1 := by
  intro h
  rcases idxC_cases p L with ⟨_, h2⟩ | ⟨i, hi, h1, _, _⟩
  · obtain ⟨i, hi, rfl⟩ := List.getElem_of_mem hc
    rw [h2 i hi] at hp; cases hp
  · omega

/-- what the table holds between the acts: at most n, the numbers grow, the last one is next -/
structure BTab (L : List Cur) (n next k : Int) : Prop where
  len : (L.length : Int) ≤ n
  max : n ≤ 8
  srt : L.Pairwise fun x y => x.id < y.id
  ids : ∀ c ∈ L, c.id ≤ next
  ages : ∀ c ∈ L, 0 ≤ c.age ∧ c.age ≤ k
theorem BTab.mono {L : List Cur} {n next k k' : Int} (h : BTab L n next k) (hk : k ≤ k') : BTab L n next k' :=
  ⟨h.len, h.max, h.srt, h.ids, fun c hc => ⟨(h.ages c hc).1, Int.le_trans (h.ages c hc).2 hk⟩⟩
theorem BTab.filter {L : List Cur} {n next k : Int} (h : BTab L n next k) (p : Cur → Bool) : BTab (L.filter p) n next k :=
  ⟨by have := List.length_filter_le p L; have := h.len; omega, h.max, h.srt.filter p, fun c hc => h.ids c (List.mem_filter.1 hc).1, fun c hc => h.ages c (List.mem_filter.1 hc).1⟩
theorem BTab.older {L : List Cur} {n next k : Int} (h : BTab L n next k) : BTab (L.map Cur.older) n next (k + 1) := by
  refine ⟨by simpa using h.len, h.max, ?_, fun c hc => ?_, fun c hc => ?_⟩
  · rw [List.pairwise_map]; exact h.srt
  · obtain ⟨d, hd, rfl⟩ := List.mem_map.1 hc; exact h.ids d hd
  · obtain ⟨d, hd, rfl⟩ := List.mem_map.1 hc
    have := h.ages d hd
    show 0 ≤ d.age + 1 ∧ d.age + 1 ≤ k + 1
    omega
/-- what is told behind an Open of a cursor of owner o -/
structure BOpen (L : List Cur) (n next k o : Int) : Prop where
  tab : BTab L n next k
  own : ∀ c ∈ L, c.id = next → c.owner = o
  there : 0 < n → ∃ c ∈ L, c.id = next ∧ c.owner = o
theorem BTab.snoc_srt {L : List Cur} {n next k : Int} (h : BTab L n next k) (c' : Cur) (hid : c'.id = next + 1) : (L ++ [c']).Pairwise fun x y => x.id < y.id := by
  rw [List.pairwise_append]
  refine ⟨h.srt, by simp, fun x hx y hy => ?_⟩
  rw [List.mem_singleton.1 hy, hid]
  have := h.ids x hx; omega
theorem BTab.fits {L : List Cur} {n next k : Int} (h : BTab L n next k) (hk : 0 ≤ k) (c' : Cur) (hid : c'.id = next + 1) (hage : c'.age = 0) (hl : (L.length : Int) + 1 ≤ n) : BOpen (L ++ [c']) n (next + 1) k c'.owner := by
  refine ⟨⟨by rw [List.length_append, List.length_singleton]; omega, h.max, h.snoc_srt c' hid, fun c hc => ?_, fun c hc => ?_⟩, fun c hc hc2 => ?_, fun _ => ⟨c', by simp, hid, rfl⟩⟩
  · rcases List.mem_append.1 hc with hc | hc
    · have := h.ids c hc; omega
    · rw [List.mem_singleton.1 hc, hid]; omega
  · rcases List.mem_append.1 hc with hc | hc
    · exact h.ages c hc
    · rw [List.mem_singleton.1 hc, hage]; omega
  · rcases List.mem_append.1 hc with hc | hc
    · have := h.ids c hc; omega
    · rw [List.mem_singleton.1 hc]
theorem first_gone : ∀ (x : Cur) (r : List Cur), (x :: r).Pairwise (fun x y => x.id < y.id) → (x :: r).filter (fun y => y.id == x.id) = [x] ∧ (x :: r).filter (fun y => !(y.id == x.id)) = r := by
  intro x r h
  obtain ⟨h1, _⟩ := List.pairwise_cons.1 h
  have e1 : r.filter (fun y => y.id == x.id) = [] := by
    rw [List.filter_eq_nil_iff]
    intro y hy e
    have := h1 y hy
    have : y.id = x.id := by simpa using e
    omega
  have e2 : r.filter (fun y => !(y.id == x.id)) = r := by
    rw [List.filter_eq_self]
    intro y hy
    have := h1 y hy
    have : ¬ y.id = x.id := by omega
    simpa using this
  simp [e1, e2]
theorem BTab.over {L : List Cur} {n next k : Int} (h : BTab L n next k) (hk : 0 ≤ k) (c' : Cur) (hid : c'.id = next + 1) (hage : c'.age = 0) (hl : n < (L.length : Int) + 1) :
    BOpen ((L ++ [c']).filter (fun x => !(x.id == firstId (L ++ [c'])))) n (next + 1) k c'.owner ∧ ((L ++ [c']).filter (fun x => x.id == firstId (L ++ [c']))).length = 1 := by
  have hs := h.snoc_srt c' hid
  have hlen := h.len
  cases L with
  | nil =>
    obtain ⟨e1, e2⟩ := first_gone c' [] (by simp)
    refine ⟨?_, ?_⟩
    · show BOpen ([c'].filter (fun x => !(x.id == c'.id))) n (next + 1) k c'.owner
      rw [e2]
      exact ⟨⟨h.len, h.max, List.Pairwise.nil, fun c hc => by simp at hc, fun c hc => by simp at hc⟩, fun c hc => by simp at hc, fun hn => by simp at hl; omega⟩
    · show ([c'].filter (fun x => x.id == c'.id)).length = 1
      rw [e1]; rfl
  | cons x r =>
    obtain ⟨e1, e2⟩ := first_gone x (r ++ [c']) hs
    refine ⟨?_, ?_⟩
    · show BOpen ((x :: (r ++ [c'])).filter (fun y => !(y.id == x.id))) n (next + 1) k c'.owner
      rw [e2]
      refine ⟨⟨by rw [List.length_append, List.length_singleton]; rw [List.length_cons] at hlen; omega, h.max, (List.pairwise_cons.1 hs).2, fun c hc => ?_, fun c hc => ?_⟩, fun c hc hc2 => ?_, fun _ => ⟨c', by simp, hid, rfl⟩⟩
      · rcases List.mem_append.1 hc with hc | hc
        · have := h.ids c (List.mem_cons_of_mem _ hc); omega
        · rw [List.mem_singleton.1 hc, hid]; omega
      · rcases List.mem_append.1 hc with hc | hc
        · exact h.ages c (List.mem_cons_of_mem _ hc)
        · rw [List.mem_singleton.1 hc, hage]; omega
      · rcases List.mem_append.1 hc with hc | hc
        · have := h.ids c (List.mem_cons_of_mem _ hc); omega
        · rw [List.mem_singleton.1 hc]
    · show ((x :: (r ++ [c'])).filter (fun y => y.id == x.id)).length = 1
      rw [e1]; rfl
theorem BOpen.got {L : List Cur} {n next k o : Int} (h : BOpen L n next k o) (hn : 0 < n) : idxC (isAt o next) L ≠ -1 := by
  obtain ⟨c, hc, h1, h2⟩ := h.there hn
  exact idxC_mem hc (by simp [isAt, h1, h2])
theorem BOpen.none {L : List Cur} {n next k o : Int} (h : BOpen L n next k o) (hn : ¬ 0 < n) : L = [] := by
  have := h.tab.len
  exact List.eq_nil_of_length_eq_zero (by omega)
theorem BOpen.other {L : List Cur} {n next k o o' : Int} (h : BOpen L n next k o) (ho : o' ≠ o) : idxC (isAt o' next) L = -1 := by
  refine idxC_none _ _ fun t ht => ?_
  unfold isAt
  by_cases hi : L[t].id = next
  · have := h.own _ (List.getElem_mem ht) hi
    have hne : ¬ L[t].owner = o' := by rw [this]; exact fun e => ho e.symm
    simp [hne]
  · simp [hi]
end Go.Proofs.Ytkmhdffkganhaaa
