/- A region that draws its order and ends in an assignment to a slot that it reads. -/
import Derived.Test.YtnenpfalhbbadaaFlow
namespace Go.Proofs.Ytnenpfalhbbadaa
open Go

section
variable {P : Program} {ops : Array Oper} {Q : Exit → Act → World → Prop}

/-- what operation i finds, ahead of the last one, number n -/
structure FlowInN (n : Nat) (ops : Array Oper) (V : Nat → Value) (a0 : Act) (W : Nat → Bool) (a : Act) : Prop where
  size : a.tmps.size = a0.tmps.size
  defers : a.defers = a0.defers
  base : ∀ t, (∀ j, j < n → dstOf ops j ≠ some t) → a.tmps[t]? = a0.tmps[t]?
  val : ∀ j t, W j = true → dstOf ops j = some t → a.tmps[t]? = some (V j)
theorem FlowInN.put {V : Nat → Value} {a0 a : Act} {l : Array Bool} {n i : Nat} {o : Oper} (hF : flowB ops n a0.tmps.size = true) (hi : i < n) (ho : ops[i]? = some o)
    (h : FlowInN n ops V a0 (fun j => decide (j < n) && l.getD j false) a) : FlowInN n ops V a0 (fun j => decide (j < n) && (l.setIfInBounds i true).getD j false) (a.put o.dst (V i)) := by
  simp only [flowB, Bool.and_eq_true, List.all_eq_true, beq_iff_eq, List.mem_range] at hF
  obtain ⟨⟨⟨⟨hsz, -⟩, -⟩, hd⟩, hm⟩ := hF
  have hdi : dstOf ops i = o.dst := by unfold dstOf; rw [ho]; rfl
  cases hdst : o.dst with
  | none =>
    refine ⟨h.size, h.defers, h.base, fun j t hj ht => ?_⟩
    refine h.val j t ?_ ht
    by_cases hij : i = j
    · subst hij; rw [hdi, hdst] at ht; cases ht
    · have : (l.setIfInBounds i true).getD j false = l.getD j false := by
        simp [Array.getD_eq_getD_getElem?, hij]
      rwa [this] at hj
  | some d =>
    have hdm : d < a.tmps.size := by
      have := hm i hi
      rw [hdi, hdst] at this
      rw [h.size]; simpa using this
    refine ⟨by simp [Act.put, h.size], h.defers, fun t ht => ?_, fun j t hj ht => ?_⟩
    · have hne : d ≠ t := fun e => ht i hi (by rw [hdi, hdst, e])
      simp only [Act.put, Array.getElem?_setIfInBounds, if_neg hne]
      exact h.base t ht
    · by_cases hij : i = j
      · subst hij
        rw [hdi, hdst] at ht
        cases ht
        simp [Act.put, hdm]
      · have hj' : (decide (j < n) && l.getD j false) = true := by
          have : (l.setIfInBounds i true).getD j false = l.getD j false := by
            simp [Array.getD_eq_getD_getElem?, hij]
          rwa [this] at hj
        have hjn : j < n := by simp at hj'; exact hj'.1
        have hne : d ≠ t := by
          have := hd i hi j hjn
          rw [hdi, hdst, ht] at this
          simp [hij] at this
          exact this
        simp only [Act.put, Array.getElem?_setIfInBounds, if_neg hne]
        exact h.val j t hj' ht

theorem FlowInN.weaken {n : Nat} {V : Nat → Value} {a0 a : Act} {W W' : Nat → Bool} (h : FlowInN n ops V a0 W a) (hw : ∀ j, W' j = true → W j = true) : FlowInN n ops V a0 W' a :=
  ⟨h.size, h.defers, h.base, fun j t hj ht => h.val j t (hw j hj) ht⟩
/-- THE LAW -/
theorem wp_region_flowN {id : Nat} {a0 : Act} {w0 : World} (V : Nat → Value) (S : World → Prop) (n : Nat) (hm : P.follows .mixedOrders = true) (hF : flowB ops n a0.tmps.size = true) (hS : S w0.drew)
    (hstep : ∀ i, i < n → ∀ a w, S w → FlowInN n ops V a0 (waitsB ops i) a → wpOp P ops Q i (fun a' w' => a' = a.put (dstOf ops i) (V i) ∧ S w') a w)
    (hlast : ∀ a w, S w → FlowInN n ops V a0 (fun j => decide (j < n)) a → wpOp P ops Q n (Q .normal) a w) : (Code.region id ops true).wp P Q a0 w0 := by
  have hF0 := hF
  simp only [flowB, Bool.and_eq_true, List.all_eq_true, beq_iff_eq, List.mem_range] at hF0
  obtain ⟨⟨⟨⟨hsz, hch⟩, hdown⟩, -⟩, -⟩ := hF0
  have hdown' : ∀ (i : Nat) (o : Oper), ops[i]? = some o → ∀ e ∈ o.after, Region.binds .any e = true → e.on < i := by
    intro i o ho e he hbi
    have hmem : (o, i) ∈ ops.toList.zipIdx := by
      rw [List.mem_zipIdx_iff_getElem?]
      simpa using ho
    have := hdown (o, i) hmem
    simpa [hbi] using this e (Array.mem_toList_iff.2 he)
  have hchain : ∀ (l : Array Bool), (∀ (j : Nat) o, ops[j]? = some o → l.getD j false = true → ∀ e ∈ o.after, Region.binds .any e = true → l.getD e.on false = true) →
      (∀ o, ops[n]? = some o → ∀ e ∈ o.after, Region.binds .any e = true → l.getD e.on false = true) → ∀ k j, n - k ≤ j → j < n → l.getD j false = true := by
    intro l hcl hn k
    induction k with
    | zero => intro j h3 h4; omega
    | succ k ih =>
      intro j h3 h4
      obtain ⟨j', hj'm, hj'⟩ := List.any_eq_true.1 (hch j h4)
      simp only [Bool.and_eq_true, decide_eq_true_eq] at hj'
      obtain ⟨hlt, hw⟩ := hj'
      have hj'n : j' < n + 1 := List.mem_range.1 hj'm
      unfold waitsB at hw
      cases ho : ops[j']? with
      | none => rw [ho] at hw; simp at hw
      | some o =>
        rw [ho] at hw
        simp only [Option.map_some, Option.getD_some, List.any_eq_true, Bool.and_eq_true, beq_iff_eq] at hw
        obtain ⟨e, he, hb, hon⟩ := hw
        have he := Array.mem_toList_iff.1 he
        subst hon
        by_cases hjn : j' = n
        · subst hjn; exact hn o ho e he hb
        · exact hcl j' o ho (ih j' (by omega) (by omega)) e he hb
  refine wp_region_any hm ?_
  let J : Array Bool → Act → World → Prop := fun l a w =>
    (l.getD n false = true ∧ (∀ j, j < n → l.getD j false = true) ∧ Q .normal a w) ∨
    (l.getD n false = false ∧ S w ∧ FlowInN n ops V a0 (fun j => decide (j < n) && l.getD j false) a ∧ (∀ (j : Nat) o, ops[j]? = some o → l.getD j false = true → ∀ e ∈ o.after, Region.binds .any e = true → l.getD e.on false = true))
  have getD_of : ∀ (l : Array Bool) j b, l[j]? = some b → l.getD j false = b := fun l j b h => by simp [Array.getD_eq_getD_getElem?, h]
  have getD_set : ∀ (l : Array Bool) i j, (l.setIfInBounds i true).getD j false = if i = j ∧ i < l.size then true else l.getD j false := fun l i j => by
    simp only [Array.getD_eq_getD_getElem?, Array.getElem?_setIfInBounds]
    by_cases hij : i = j
    · subst hij
      by_cases hlt : i < l.size
      · simp [hlt]
      · simp [hlt]
    · simp [hij]
  refine wpAny_inv J ?_ ?_ ops.size (Array.replicate ops.size false) a0 _ (by simp) (by simp [unl]) ?_
  · intro i l a w hl hi hJ
    obtain ⟨h1, o, ho, h2⟩ := (ready_iff hl i).1 hi
    have hilt : i < ops.size := (Array.getElem?_eq_some_iff.1 ho).1
    have h1' := getD_of l i false h1
    rcases hJ with ⟨hn, hall, _⟩ | ⟨hn, hSw, hfl, hcl⟩
    · exfalso
      by_cases hin : i = n
      · subst hin; rw [hn] at h1'; cases h1'
      · rw [hall i (by omega)] at h1'; cases h1'
    · by_cases hin : i = n
      · subst hin
        have hall : ∀ j, j < i → l.getD j false = true := fun j hj =>
          hchain l hcl (fun o' ho' e he hb => by rw [ho] at ho'; cases ho'; exact h2 e he hb) i j (by omega) hj
        refine wpOp_mono (fun a' w' hq => ?_) (hlast a w hSw (hfl.weaken fun j hj => by simp at hj; simp [hj, hall j hj]))
        refine .inl ⟨?_, fun j hj => ?_, hq⟩
        · rw [getD_set, if_pos ⟨rfl, by omega⟩]
        · rw [getD_set]; split
          · rfl
          · exact hall j hj
      · have hin' : i < n := by omega
        refine wpOp_mono (fun a' w' hq => ?_) (hstep i hin' a w hSw (hfl.weaken fun j hj => ?_))
        · obtain ⟨rfl, hS'⟩ := hq
          refine .inr ⟨?_, hS', ?_, ?_⟩
          · rw [getD_set, if_neg (by omega)]; exact hn
          · rw [show dstOf ops i = o.dst by unfold dstOf; rw [ho]; rfl]
            exact FlowInN.put hF hin' ho hfl
          · intro j o' ho' hj e he hb
            rw [getD_set] at hj ⊢
            split
            · rfl
            · by_cases hij : i = j
              · subst hij
                rw [ho] at ho'; cases ho'
                exact h2 e he hb
              · rw [if_neg (by omega)] at hj
                exact hcl j o' ho' hj e he hb
        · unfold waitsB at hj
          rw [ho] at hj
          simp only [Option.map_some, Option.getD_some, List.any_eq_true, Bool.and_eq_true, beq_iff_eq] at hj
          obtain ⟨e, he, hb, hon⟩ := hj
          have he := Array.mem_toList_iff.1 he
          subst hon
          have := hdown' i o ho e he hb
          simp [h2 e he hb]
          omega
  · intro l a w hl hr hJ
    rcases hJ with ⟨_, _, hq⟩ | ⟨hn, hSw, hfl, hcl⟩
    · exact hq
    · exfalso
      -- the least that has not come up may come up
      have hex : ∃ i : Nat, l[i]? = some false := ⟨n, by
        have : n < l.size := by omega
        simp [Array.getD, this] at hn
        rw [Array.getElem?_eq_getElem this, hn]⟩
      have hmin : ∃ i : Nat, l[i]? = some false ∧ ∀ j : Nat, j < i → l[j]? ≠ some false := by
        obtain ⟨i, hi⟩ := hex
        induction i using Nat.strongRecOn with
        | ind i ih =>
          by_cases h : ∃ j, j < i ∧ l[j]? = some false
          · obtain ⟨j, hj, hlj⟩ := h
            exact ih j hj hlj
          · exact ⟨i, hi, fun j hj hlj => h ⟨j, hj, hlj⟩⟩
      obtain ⟨i, hi, hmin⟩ := hmin
      have hilt := (Array.getElem?_eq_some_iff.1 hi).1
      have : i ∈ Region.ready .any ops l := (ready_iff hl i).2 ⟨hi, ops[i]'(by omega), Array.getElem?_eq_getElem _, fun e he hbi => by
        have h3 := hdown' i _ (Array.getElem?_eq_getElem (by omega)) e he hbi
        have h4 := hmin e.on h3
        have h5 : e.on < l.size := by omega
        rw [Array.getElem?_eq_getElem h5] at h4
        simp [Array.getD, h5]
        cases hc : l[e.on] with
        | true => rfl
        | false => rw [hc] at h4; exact absurd rfl h4⟩
      rw [hr] at this
      cases this
  · refine .inr ⟨?_, hS, ⟨rfl, rfl, fun _ _ => rfl, fun j t hj _ => ?_⟩, fun j o _ hj => ?_⟩
    · simp [Array.getD]
    · simp [Array.getD] at hj
    · simp [Array.getD] at hj
theorem FlowInN.eq_puts {V : Nat → Value} {a0 a : Act} {n : Nat} (hF : flowB ops n a0.tmps.size = true) (h : FlowInN n ops V a0 (fun j => decide (j < n)) a) : a = puts ((List.range n).map fun i => (dstOf ops i, V i)) a0 := by
  simp only [flowB, Bool.and_eq_true, List.all_eq_true, beq_iff_eq, List.mem_range] at hF
  obtain ⟨⟨⟨⟨-, -⟩, -⟩, hd⟩, hm⟩ := hF
  obtain ⟨e1, e2⟩ := puts_size ((List.range n).map fun i => (dstOf ops i, V i)) a0
  have hT : a.tmps = (puts ((List.range n).map fun i => (dstOf ops i, V i)) a0).tmps := by
    apply Array.ext_getElem?
    intro t
    by_cases hx : ∃ j, j < n ∧ dstOf ops j = some t
    · obtain ⟨j, hj, ht⟩ := hx
      rw [h.val j t (by simp [hj]) ht]
      refine (puts_in _ _ _ _ ?_ ?_ ?_).symm
      · rw [List.pairwise_map, List.pairwise_iff_getElem]
        intro i k hi hk hik
        simp only [List.length_range] at hi hk
        simp only [List.getElem_range]
        have := hd i hi k hk
        cases h1 : dstOf ops i with
        | none => exact .inl rfl
        | some s =>
          refine .inr fun e => ?_
          rw [h1, ← e] at this
          simp at this
          omega
      · exact List.mem_map.2 ⟨j, List.mem_range.2 hj, by rw [ht]⟩
      · have := hm j hj
        rw [ht] at this
        simpa using this
    · rw [puts_out _ _ _ (fun p hp => by
        obtain ⟨j, hj, rfl⟩ := List.mem_map.1 hp
        exact fun e => hx ⟨j, List.mem_range.1 hj, e⟩)]
      exact h.base t fun j hjn hj => hx ⟨j, hjn, hj⟩
  cases a with
  | mk T D =>
    have hDD := h.defers
    simp only at hT hDD
    have : (puts ((List.range n).map fun i => (dstOf ops i, V i)) a0) = ⟨(puts ((List.range n).map fun i => (dstOf ops i, V i)) a0).tmps, (puts ((List.range n).map fun i => (dstOf ops i, V i)) a0).defers⟩ := rfl
    rw [this, ← hT, e2, hDD]

theorem puts_append : ∀ (l l' : List (Option Tmp × Value)) (a : Act), puts (l ++ l') a = puts l' (puts l a)
  | [], _, _ => rfl
  | (d, v) :: r, l', a => puts_append r l' (a.put d v)
def baseN (ops : Array Oper) (n t : Nat) : Bool := (List.range n).all fun j => dstOf ops j != some t
theorem FlowInN.at_base {n : Nat} {V : Nat → Value} {a0 a : Act} {W : Nat → Bool} (h : FlowInN n ops V a0 W a) (t : Nat) (hb : baseN ops n t = true) : a.tmps[t]? = a0.tmps[t]? := by
  refine h.base t fun j hj hd => ?_
  have := List.all_eq_true.1 hb j (List.mem_range.2 hj)
  rw [hd] at this
  simp at this
theorem wp_region_flowL {id : Nat} {a0 : Act} {w0 : World} (V : Nat → Value) (n : Nat) (pv : List (Option Tmp × Value)) (S : World → Prop) (hm : P.follows .mixedOrders = true) (hF : flowB ops n a0.tmps.size = true) (hS : S w0.drew)
    (hstep : ∀ i, i < n + 1 → ∀ a w, S w → FlowInN n ops V a0 (waitsB ops i) a → wpOp P ops Q i (fun a' w' => a' = a.put (dstOf ops i) (V i) ∧ S w') a w)
    (hpv : (List.range (n + 1)).map (fun i => (dstOf ops i, V i)) = pv) (hdone : ∀ w, S w → Q .normal (puts pv a0) w) : (Code.region id ops true).wp P Q a0 w0 := by
  have hlw : ∀ j, waitsB ops n j = true → j < n := by
    intro j hj
    have hF0 := hF
    simp only [flowB, Bool.and_eq_true, List.all_eq_true, beq_iff_eq, List.mem_range] at hF0
    obtain ⟨⟨⟨⟨-, -⟩, hdown⟩, -⟩, -⟩ := hF0
    unfold waitsB at hj
    cases ho : ops[n]? with
    | none => rw [ho] at hj; simp at hj
    | some o =>
      rw [ho] at hj
      simp only [Option.map_some, Option.getD_some, List.any_eq_true, Bool.and_eq_true, beq_iff_eq] at hj
      obtain ⟨e, he, hb, hon⟩ := hj
      subst hon
      have hmem : (o, n) ∈ ops.toList.zipIdx := by
        rw [List.mem_zipIdx_iff_getElem?]
        simpa using ho
      have := hdown (o, n) hmem
      simpa [hb] using this e he
  refine wp_region_flowN V S n hm hF hS (fun i hi a w hSw hf => hstep i (by omega) a w hSw hf) (fun a w hSw hf => ?_)
  refine wpOp_mono (fun a' w' hq => ?_) (hstep n (by omega) a w hSw (hf.weaken fun j hj => by simp [hlw j hj]))
  obtain ⟨rfl, hS'⟩ := hq
  have e := hdone w' hS'
  rw [← hpv, List.range_succ, List.map_append, puts_append, ← FlowInN.eq_puts hF hf] at e
  exact e
end
end Go.Proofs.Ytnenpfalhbbadaa
