/- A region that draws its order, each of whose operations yields one value whatever has come up ahead of it, but for its last one: walked operation by operation, each once. The condition on the worlds on the way is S. -/
import Derived.RegionTactic
import Derived.Handy
namespace Go.Proofs.Ytnenpfalhbbadaa
open Go

section
variable {P : Program} {ops : Array Oper} {Q : Exit → Act → World → Prop}

def unl (l : Array Bool) : Nat := l.toList.count false
theorem count_set : ∀ (L : List Bool) (i : Nat), L[i]? = some false → (L.set i true).count false + 1 = L.count false
  | [], _, h => by simp at h
  | x :: r, 0, h => by simp at h; subst h; simp
  | x :: r, k + 1, h => by
    have := count_set r k (by simpa using h)
    simp only [List.set_cons_succ, List.count_cons]
    omega
theorem unl_set {l : Array Bool} {i : Nat} (hi : l[i]? = some false) : unl (l.setIfInBounds i true) + 1 = unl l := by
  unfold unl
  rw [Array.toList_setIfInBounds]
  exact count_set _ _ (by simpa using hi)
theorem all_of_unl {l : Array Bool} (h : unl l = 0) (i : Nat) (hi : i < l.size) : l[i]? = some true := by
  have h1 : false ∉ l.toList := List.count_eq_zero.1 h
  rw [Array.getElem?_eq_getElem hi]
  cases hc : l[i] with
  | true => rfl
  | false => exact absurd (by rw [← hc]; simp) h1
theorem ready_iff {md : Region.Mode} {l : Array Bool} (hl : l.size = ops.size) (i : Nat) : i ∈ Region.ready md ops l ↔ l[i]? = some false ∧ ∃ o, ops[i]? = some o ∧ ∀ e ∈ o.after, Region.binds md e = true → l.getD e.on false = true := by
  rw [mem_ready]
  constructor
  · rintro ⟨h1, o, ho, h2⟩
    have hlt : i < l.size := by rw [hl]; exact (Array.getElem?_eq_some_iff.1 ho).1
    refine ⟨?_, o, ho, h2⟩
    rw [Array.getElem?_eq_getElem hlt]
    simp [Array.getD, hlt] at h1
    rw [h1]
  · rintro ⟨h1, o, ho, h2⟩
    obtain ⟨hlt, he⟩ := Array.getElem?_eq_some_iff.1 h1
    exact ⟨by simp [Array.getD, hlt, he], o, ho, h2⟩

theorem wpAny_inv (J : Array Bool → Act → World → Prop)
    (hstep : ∀ i l a w, l.size = ops.size → i ∈ Region.ready .any ops l → J l a w → wpOp P ops Q i (fun a' w' => J (l.setIfInBounds i true) a' w') a w)
    (hdone : ∀ l a w, l.size = ops.size → Region.ready .any ops l = [] → J l a w → Q .normal a w) :
    ∀ (fuel : Nat) (l : Array Bool) (a : Act) (w : World), l.size = ops.size → unl l = fuel → J l a w → wpAny P .any ops Q fuel l a w
  | 0, l, a, w, hl, hu, hJ => by
    have hr : Region.ready .any ops l = [] := by
      rw [List.eq_nil_iff_forall_not_mem]
      intro i hi
      obtain ⟨h1, _⟩ := (ready_iff hl i).1 hi
      have := all_of_unl hu i (Array.getElem?_eq_some_iff.1 h1).1
      rw [h1] at this
      cases this
    exact ⟨hr, hdone l a w hl hr hJ⟩
  | fuel + 1, l, a, w, hl, hu, hJ => by
    refine ⟨fun hr => hdone l a w hl hr hJ, fun i hi => ?_⟩
    have h1 := ((ready_iff hl i).1 hi).1
    have h2 := unl_set h1
    exact wpOp_mono (fun a' w' hJ' => wpAny_inv J hstep hdone fuel _ a' w' (by simpa using hl) (by omega) hJ') (hstep i l a w hl hi hJ)

def dstOf (ops : Array Oper) (i : Nat) : Option Tmp := (ops[i]?).bind fun o => o.dst
/-- operation i waits for operation j -/
def waitsB (ops : Array Oper) (i j : Nat) : Bool := ((ops[i]?).map fun o => o.after.toList.any fun e => Region.binds .any e && e.on == j).getD false
/-- the last operation is number n; every other one is waited for by a later one; who waits waits for one ahead; no two write one slot, and all slots are below m -/
def flowB (ops : Array Oper) (n m : Nat) : Bool :=
  ops.size == n + 1 &&
  (List.range n).all (fun i => (List.range (n + 1)).any fun j => decide (i < j) && waitsB ops j i) &&
  ops.toList.zipIdx.all (fun p => p.1.after.toList.all fun e => !Region.binds .any e || decide (e.on < p.2)) &&
  (List.range n).all (fun i => (List.range n).all fun j => i == j || (match dstOf ops i, dstOf ops j with | some s, some t => s != t | _, _ => true)) &&
  (List.range n).all (fun i => match dstOf ops i with | some s => decide (s < m) | none => true)

/-- what operation i finds: the slots as they were, but for those that those write that it waits for, which hold their values -/
structure FlowIn (ops : Array Oper) (V : Nat → Value) (a0 : Act) (W : Nat → Bool) (a : Act) : Prop where
  size : a.tmps.size = a0.tmps.size
  defers : a.defers = a0.defers
  base : ∀ t, (∀ j, dstOf ops j ≠ some t) → a.tmps[t]? = a0.tmps[t]?
  val : ∀ j t, W j = true → dstOf ops j = some t → a.tmps[t]? = some (V j)

theorem FlowIn.put {V : Nat → Value} {a0 a : Act} {l : Array Bool} {n i : Nat} {o : Oper} (hF : flowB ops n a0.tmps.size = true) (hi : i < n) (ho : ops[i]? = some o)
    (h : FlowIn ops V a0 (fun j => decide (j < n) && l.getD j false) a) : FlowIn ops V a0 (fun j => decide (j < n) && (l.setIfInBounds i true).getD j false) (a.put o.dst (V i)) := by
  simp only [flowB, Bool.and_eq_true, List.all_eq_true, beq_iff_eq, List.mem_range] at hF
  obtain ⟨⟨⟨⟨hsz, -⟩, -⟩, hd⟩, hm⟩ := hF
  have hdi : dstOf ops i = o.dst := by unfold dstOf; rw [ho]; rfl
  cases hdst : o.dst with
  | none =>
    refine ⟨h.size, h.defers, h.base, fun j t hj ht => ?_⟩
    refine h.val j t ?_ ht
    by_cases hij : i = j
    · subst hij; rw [hdi, hdst] at ht; cases ht
    · have : (l.setIfInBounds i true).getD j false = l.getD j false := by
        simp [Array.getD_eq_getD_getElem?, hij]
      rwa [this] at hj
  | some d =>
    have hdm : d < a.tmps.size := by
      have := hm i hi
      rw [hdi, hdst] at this
      rw [h.size]; simpa using this
    refine ⟨by simp [Act.put, h.size], h.defers, fun t ht => ?_, fun j t hj ht => ?_⟩
    · have hne : d ≠ t := fun e => ht i (by rw [hdi, hdst, e])
      simp only [Act.put, Array.getElem?_setIfInBounds, if_neg hne]
      exact h.base t ht
    · by_cases hij : i = j
      · subst hij
        rw [hdi, hdst] at ht
        cases ht
        simp [Act.put, hdm]
      · have hj' : (decide (j < n) && l.getD j false) = true := by
          have : (l.setIfInBounds i true).getD j false = l.getD j false := by
            simp [Array.getD_eq_getD_getElem?, hij]
          rwa [this] at hj
        have hjn : j < n := by simp at hj'; exact hj'.1
        have hne : d ≠ t := by
          have := hd i hi j hjn
          rw [hdi, hdst, ht] at this
          simp [hij] at this
          exact this
        simp only [Act.put, Array.getElem?_setIfInBounds, if_neg hne]
        exact h.val j t hj' ht

theorem FlowIn.weaken {V : Nat → Value} {a0 a : Act} {W W' : Nat → Bool} (h : FlowIn ops V a0 W a) (hw : ∀ j, W' j = true → W j = true) : FlowIn ops V a0 W' a :=
  ⟨h.size, h.defers, h.base, fun j t hj ht => h.val j t (hw j hj) ht⟩

/-- THE LAW -/
theorem wp_region_flow {id : Nat} {a0 : Act} {w0 : World} (V : Nat → Value) (S : World → Prop) (n : Nat) (hm : P.follows .mixedOrders = true) (hF : flowB ops n a0.tmps.size = true) (hS : S w0.drew)
    (hstep : ∀ i, i < n → ∀ a w, S w → FlowIn ops V a0 (waitsB ops i) a → wpOp P ops Q i (fun a' w' => a' = a.put (dstOf ops i) (V i) ∧ S w') a w)
    (hlast : ∀ a w, S w → FlowIn ops V a0 (fun j => decide (j < n)) a → wpOp P ops Q n (Q .normal) a w) : (Code.region id ops true).wp P Q a0 w0 := by
  have hF0 := hF
  simp only [flowB, Bool.and_eq_true, List.all_eq_true, beq_iff_eq, List.mem_range] at hF0
  obtain ⟨⟨⟨⟨hsz, hch⟩, hdown⟩, -⟩, -⟩ := hF0
  have hdown' : ∀ (i : Nat) (o : Oper), ops[i]? = some o → ∀ e ∈ o.after, Region.binds .any e = true → e.on < i := by
    intro i o ho e he hbi
    have hmem : (o, i) ∈ ops.toList.zipIdx := by
      rw [List.mem_zipIdx_iff_getElem?]
      simpa using ho
    have := hdown (o, i) hmem
    simpa [hbi] using this e (Array.mem_toList_iff.2 he)
  have hchain : ∀ (l : Array Bool), (∀ (j : Nat) o, ops[j]? = some o → l.getD j false = true → ∀ e ∈ o.after, Region.binds .any e = true → l.getD e.on false = true) →
      (∀ o, ops[n]? = some o → ∀ e ∈ o.after, Region.binds .any e = true → l.getD e.on false = true) → ∀ k j, n - k ≤ j → j < n → l.getD j false = true := by
    intro l hcl hn k
    induction k with
    | zero => intro j h3 h4; omega
    | succ k ih =>
      intro j h3 h4
      obtain ⟨j', hj'm, hj'⟩ := List.any_eq_true.1 (hch j h4)
      simp only [Bool.and_eq_true, decide_eq_true_eq] at hj'
      obtain ⟨hlt, hw⟩ := hj'
      have hj'n : j' < n + 1 := List.mem_range.1 hj'm
      unfold waitsB at hw
      cases ho : ops[j']? with
      | none => rw [ho] at hw; simp at hw
      | some o =>
        rw [ho] at hw
        simp only [Option.map_some, Option.getD_some, List.any_eq_true, Bool.and_eq_true, beq_iff_eq] at hw
        obtain ⟨e, he, hb, hon⟩ := hw
        have he := Array.mem_toList_iff.1 he
        subst hon
        by_cases hjn : j' = n
        · subst hjn; exact hn o ho e he hb
        · exact hcl j' o ho (ih j' (by omega) (by omega)) e he hb
  refine wp_region_any hm ?_
  let J : Array Bool → Act → World → Prop := fun l a w =>
    (l.getD n false = true ∧ (∀ j, j < n → l.getD j false = true) ∧ Q .normal a w) ∨
    (l.getD n false = false ∧ S w ∧ FlowIn ops V a0 (fun j => decide (j < n) && l.getD j false) a ∧ (∀ (j : Nat) o, ops[j]? = some o → l.getD j false = true → ∀ e ∈ o.after, Region.binds .any e = true → l.getD e.on false = true))
  have getD_of : ∀ (l : Array Bool) j b, l[j]? = some b → l.getD j false = b := fun l j b h => by simp [Array.getD_eq_getD_getElem?, h]
  have getD_set : ∀ (l : Array Bool) i j, (l.setIfInBounds i true).getD j false = if i = j ∧ i < l.size then true else l.getD j false := fun l i j => by
    simp only [Array.getD_eq_getD_getElem?, Array.getElem?_setIfInBounds]
    by_cases hij : i = j
    · subst hij
      by_cases hlt : i < l.size
      · simp [hlt]
      · simp [hlt]
    · simp [hij]
  refine wpAny_inv J ?_ ?_ ops.size (Array.replicate ops.size false) a0 _ (by simp) (by simp [unl]) ?_
  · intro i l a w hl hi hJ
    obtain ⟨h1, o, ho, h2⟩ := (ready_iff hl i).1 hi
    have hilt : i < ops.size := (Array.getElem?_eq_some_iff.1 ho).1
    have h1' := getD_of l i false h1
    rcases hJ with ⟨hn, hall, _⟩ | ⟨hn, hSw, hfl, hcl⟩
    · exfalso
      by_cases hin : i = n
      · subst hin; rw [hn] at h1'; cases h1'
      · rw [hall i (by omega)] at h1'; cases h1'
    · by_cases hin : i = n
      · subst hin
        have hall : ∀ j, j < i → l.getD j false = true := fun j hj =>
          hchain l hcl (fun o' ho' e he hb => by rw [ho] at ho'; cases ho'; exact h2 e he hb) i j (by omega) hj
        refine wpOp_mono (fun a' w' hq => ?_) (hlast a w hSw (hfl.weaken fun j hj => by simp at hj; simp [hj, hall j hj]))
        refine .inl ⟨?_, fun j hj => ?_, hq⟩
        · rw [getD_set, if_pos ⟨rfl, by omega⟩]
        · rw [getD_set]; split
          · rfl
          · exact hall j hj
      · have hin' : i < n := by omega
        refine wpOp_mono (fun a' w' hq => ?_) (hstep i hin' a w hSw (hfl.weaken fun j hj => ?_))
        · obtain ⟨rfl, hS'⟩ := hq
          refine .inr ⟨?_, hS', ?_, ?_⟩
          · rw [getD_set, if_neg (by omega)]; exact hn
          · rw [show dstOf ops i = o.dst by unfold dstOf; rw [ho]; rfl]
            exact FlowIn.put hF hin' ho hfl
          · intro j o' ho' hj e he hb
            rw [getD_set] at hj ⊢
            split
            · rfl
            · by_cases hij : i = j
              · subst hij
                rw [ho] at ho'; cases ho'
                exact h2 e he hb
              · rw [if_neg (by omega)] at hj
                exact hcl j o' ho' hj e he hb
        · unfold waitsB at hj
          rw [ho] at hj
          simp only [Option.map_some, Option.getD_some, List.any_eq_true, Bool.and_eq_true, beq_iff_eq] at hj
          obtain ⟨e, he, hb, hon⟩ := hj
          have he := Array.mem_toList_iff.1 he
          subst hon
          have := hdown' i o ho e he hb
          simp [h2 e he hb]
          omega
  · intro l a w hl hr hJ
    rcases hJ with ⟨_, _, hq⟩ | ⟨hn, hSw, hfl, hcl⟩
    · exact hq
    · exfalso
      -- the least that has not come up may come up
      have hex : ∃ i : Nat, l[i]? = some false := ⟨n, by
        have : n < l.size := by omega
        simp [Array.getD, this] at hn
        rw [Array.getElem?_eq_getElem this, hn]⟩
      have hmin : ∃ i : Nat, l[i]? = some false ∧ ∀ j : Nat, j < i → l[j]? ≠ some false := by
        obtain ⟨i, hi⟩ := hex
        induction i using Nat.strongRecOn with
        | ind i ih =>
          by_cases h : ∃ j, j < i ∧ l[j]? = some false
          · obtain ⟨j, hj, hlj⟩ := h
            exact ih j hj hlj
          · exact ⟨i, hi, fun j hj hlj => h ⟨j, hj, hlj⟩⟩
      obtain ⟨i, hi, hmin⟩ := hmin
      have hilt := (Array.getElem?_eq_some_iff.1 hi).1
      have : i ∈ Region.ready .any ops l := (ready_iff hl i).2 ⟨hi, ops[i]'(by omega), Array.getElem?_eq_getElem _, fun e he hbi => by
        have h3 := hdown' i _ (Array.getElem?_eq_getElem (by omega)) e he hbi
        have h4 := hmin e.on h3
        have h5 : e.on < l.size := by omega
        rw [Array.getElem?_eq_getElem h5] at h4
        simp [Array.getD, h5]
        cases hc : l[e.on] with
        | true => rfl
        | false => rw [hc] at h4; exact absurd rfl h4⟩
      rw [hr] at this
      cases this
  · refine .inr ⟨?_, hS, ⟨rfl, rfl, fun _ _ => rfl, fun j t hj _ => ?_⟩, fun j o _ hj => ?_⟩
    · simp [Array.getD]
    · simp [Array.getD] at hj
    · simp [Array.getD] at hj
/-- no operation writes slot t -/
def baseB (ops : Array Oper) (t : Nat) : Bool := ops.toList.all fun o => o.dst != some t
theorem FlowIn.at_base {V : Nat → Value} {a0 a : Act} {W : Nat → Bool} (h : FlowIn ops V a0 W a) (t : Nat) (hb : baseB ops t = true) : a.tmps[t]? = a0.tmps[t]? := by
  refine h.base t fun j hj => ?_
  unfold dstOf at hj
  cases ho : ops[j]? with
  | none => rw [ho] at hj; cases hj
  | some o =>
    rw [ho] at hj
    have hm : o ∈ ops.toList := by
      have := Array.mem_of_getElem? ho
      simpa using this
    have := List.all_eq_true.1 hb o hm
    simp at hj
    simp [hj] at this
theorem wpOp_flow {i : Nat} {o : Oper} {K : Act → World → Prop} {a : Act} {w : World} (ho : ops[i]? = some o) (hw : Region.wanted o (yielded ops a.tmps) = true)
    (h : ∀ K' : Act → World → Prop, (∀ a w, K a w → K' a w) → Oper.wp P o a w K' Q) : wpOp P ops Q i K a w :=
  wpOp_step ho fun K' hK => by rw [if_pos hw]; exact h K' hK

/-- no two operations write one slot, all slots are below m, who waits waits for one ahead -/
def flowB2 (ops : Array Oper) (m : Nat) : Bool :=
  ops.toList.zipIdx.all (fun p => p.1.after.toList.all fun e => !Region.binds .any e || decide (e.on < p.2)) &&
  (List.range ops.size).all (fun i => (List.range ops.size).all fun j => i == j || (match dstOf ops i, dstOf ops j with | some s, some t => s != t | _, _ => true)) &&
  (List.range ops.size).all (fun i => match dstOf ops i with | some s => decide (s < m) | none => true)
theorem FlowIn.put2 {V : Nat → Value} {a0 a : Act} {l : Array Bool} {i : Nat} {o : Oper} (hF : flowB2 ops a0.tmps.size = true) (hi : i < ops.size) (ho : ops[i]? = some o)
    (h : FlowIn ops V a0 (fun j => decide (j < ops.size) && l.getD j false) a) : FlowIn ops V a0 (fun j => decide (j < ops.size) && (l.setIfInBounds i true).getD j false) (a.put o.dst (V i)) := by
  simp only [flowB2, Bool.and_eq_true, List.all_eq_true, List.mem_range] at hF
  obtain ⟨⟨-, hd⟩, hm⟩ := hF
  have hdi : dstOf ops i = o.dst := by unfold dstOf; rw [ho]; rfl
  have hset : ∀ j, i ≠ j → (l.setIfInBounds i true).getD j false = l.getD j false := fun j hij => by
    simp [Array.getD_eq_getD_getElem?, hij]
  cases hdst : o.dst with
  | none =>
    refine ⟨h.size, h.defers, h.base, fun j t hj ht => ?_⟩
    refine h.val j t ?_ ht
    by_cases hij : i = j
    · subst hij; rw [hdi, hdst] at ht; cases ht
    · rwa [hset j hij] at hj
  | some d =>
    have hdm : d < a.tmps.size := by
      have := hm i hi
      rw [hdi, hdst] at this
      rw [h.size]; simpa using this
    refine ⟨by simp [Act.put, h.size], h.defers, fun t ht => ?_, fun j t hj ht => ?_⟩
    · have hne : d ≠ t := fun e => ht i (by rw [hdi, hdst, e])
      simp only [Act.put, Array.getElem?_setIfInBounds, if_neg hne]
      exact h.base t ht
    · by_cases hij : i = j
      · subst hij
        rw [hdi, hdst] at ht
        cases ht
        simp [Act.put, hdm]
      · have hj' : (decide (j < ops.size) && l.getD j false) = true := by rwa [hset j hij] at hj
        have hjn : j < ops.size := by simp at hj'; exact hj'.1
        have hne : d ≠ t := by
          have := hd i hi j hjn
          rw [hdi, hdst, ht] at this
          simp [hij] at this
          exact this
        simp only [Act.put, Array.getElem?_setIfInBounds, if_neg hne]
        exact h.val j t hj' ht

def puts : List (Option Tmp × Value) → Act → Act
  | [], a => a
  | (d, v) :: r, a => puts r (a.put d v)
theorem puts_size : ∀ (l : List (Option Tmp × Value)) (a : Act), (puts l a).tmps.size = a.tmps.size ∧ (puts l a).defers = a.defers
  | [], _ => ⟨rfl, rfl⟩
  | (none, _) :: r, a => puts_size r a
  | (some d, v) :: r, a => by
    have := puts_size r (a.put (some d) v)
    exact ⟨this.1.trans (by simp [Act.put]), this.2⟩
theorem puts_out : ∀ (l : List (Option Tmp × Value)) (a : Act) (t : Nat), (∀ p ∈ l, p.1 ≠ some t) → (puts l a).tmps[t]? = a.tmps[t]?
  | [], _, _, _ => rfl
  | (d, v) :: r, a, t, h => by
    rw [puts, puts_out r _ t (fun p hp => h p (by simp [hp]))]
    have hd := h (d, v) (by simp)
    cases d with
    | none => rfl
    | some d =>
      have hne : d ≠ t := fun e => hd (by rw [e])
      simp [Act.put, hne]
theorem puts_in : ∀ (l : List (Option Tmp × Value)) (a : Act) (t : Nat) (v : Value), l.Pairwise (fun p q => p.1 = none ∨ p.1 ≠ q.1) → (some t, v) ∈ l → t < a.tmps.size → (puts l a).tmps[t]? = some v
  | [], _, _, _, _, h, _ => by simp at h
  | (d, u) :: r, a, t, v, hp, h, ht => by
    obtain ⟨h1, h2⟩ := List.pairwise_cons.1 hp
    rcases List.mem_cons.1 h with e | h
    · cases e
      rw [puts, puts_out r _ t (fun p hpr => by
        rcases h1 p hpr with h3 | h3
        · cases h3
        · exact fun e => h3 e.symm)]
      simp [Act.put, ht]
    · rw [puts]
      refine puts_in r _ t v h2 h ?_
      cases d <;> simp [Act.put, ht]
theorem FlowIn.eq_puts {V : Nat → Value} {a0 a : Act} (hF : flowB2 ops a0.tmps.size = true) (h : FlowIn ops V a0 (fun j => decide (j < ops.size)) a) : a = puts ((List.range ops.size).map fun i => (dstOf ops i, V i)) a0 := by
  simp only [flowB2, Bool.and_eq_true, List.all_eq_true, List.mem_range] at hF
  obtain ⟨⟨-, hd⟩, hm⟩ := hF
  obtain ⟨e1, e2⟩ := puts_size ((List.range ops.size).map fun i => (dstOf ops i, V i)) a0
  have hT : a.tmps = (puts ((List.range ops.size).map fun i => (dstOf ops i, V i)) a0).tmps := by
    apply Array.ext_getElem?
    intro t
    by_cases hx : ∃ j, j < ops.size ∧ dstOf ops j = some t
    · obtain ⟨j, hj, ht⟩ := hx
      rw [h.val j t (by simp [hj]) ht]
      refine (puts_in _ _ _ _ ?_ ?_ ?_).symm
      · rw [List.pairwise_map, List.pairwise_iff_getElem]
        intro i k hi hk hik
        simp only [List.length_range] at hi hk
        simp only [List.getElem_range]
        have := hd i hi k hk
        cases h1 : dstOf ops i with
        | none => exact .inl rfl
        | some s =>
          refine .inr fun e => ?_
          rw [h1, ← e] at this
          simp at this
          omega
      · exact List.mem_map.2 ⟨j, List.mem_range.2 hj, by rw [ht]⟩
      · have := hm j hj
        rw [ht] at this
        simpa using this
    · rw [puts_out _ _ _ (fun p hp => by
        obtain ⟨j, hj, rfl⟩ := List.mem_map.1 hp
        exact fun e => hx ⟨j, List.mem_range.1 hj, e⟩)]
      refine h.base t fun j hj => hx ⟨j, ?_, hj⟩
      unfold dstOf at hj
      cases ho : ops[j]? with
      | none => rw [ho] at hj; cases hj
      | some o => exact (Array.getElem?_eq_some_iff.1 ho).1
  cases a with
  | mk T D =>
    have hDD := h.defers
    simp only at hT hDD
    have : (puts ((List.range ops.size).map fun i => (dstOf ops i, V i)) a0) = ⟨(puts ((List.range ops.size).map fun i => (dstOf ops i, V i)) a0).tmps, (puts ((List.range ops.size).map fun i => (dstOf ops i, V i)) a0).defers⟩ := rfl
    rw [this, ← hT, e2, hDD]

/-- THE LAW where every operation yields one value -/
theorem wp_region_flow2 {id : Nat} {a0 : Act} {w0 : World} (V : Nat → Value) (pv : List (Option Tmp × Value)) (S : World → Prop) (hm : P.follows .mixedOrders = true) (hF : flowB2 ops a0.tmps.size = true) (hS : S w0.drew)
    (hstep : ∀ i, i < ops.size → ∀ a w, S w → FlowIn ops V a0 (waitsB ops i) a → wpOp P ops Q i (fun a' w' => a' = a.put (dstOf ops i) (V i) ∧ S w') a w)
    (hpv : (List.range ops.size).map (fun i => (dstOf ops i, V i)) = pv) (hdone : ∀ w, S w → Q .normal (puts pv a0) w) : (Code.region id ops true).wp P Q a0 w0 := by
  have hF0 := hF
  simp only [flowB2, Bool.and_eq_true, List.all_eq_true, List.mem_range] at hF0
  obtain ⟨⟨hdown, -⟩, -⟩ := hF0
  have hdown' : ∀ (i : Nat) (o : Oper), ops[i]? = some o → ∀ e ∈ o.after, Region.binds .any e = true → e.on < i := by
    intro i o ho e he hbi
    have hmem : (o, i) ∈ ops.toList.zipIdx := by
      rw [List.mem_zipIdx_iff_getElem?]
      simpa using ho
    have := hdown (o, i) hmem
    simpa [hbi] using this e (Array.mem_toList_iff.2 he)
  refine wp_region_any hm ?_
  refine wpAny_inv (fun l a w => S w ∧ FlowIn ops V a0 (fun j => decide (j < ops.size) && l.getD j false) a) ?_ ?_ ops.size (Array.replicate ops.size false) a0 _ (by simp) (by simp [unl]) ?_
  · intro i l a w hl hi hJ
    obtain ⟨h1, o, ho, h2⟩ := (ready_iff hl i).1 hi
    obtain ⟨hSw, hfl⟩ := hJ
    have hilt : i < ops.size := (Array.getElem?_eq_some_iff.1 ho).1
    refine wpOp_mono (fun a' w' hq => ?_) (hstep i hilt a w hSw (hfl.weaken fun j hj => ?_))
    · obtain ⟨rfl, hS'⟩ := hq
      refine ⟨hS', ?_⟩
      rw [show dstOf ops i = o.dst by unfold dstOf; rw [ho]; rfl]
      exact FlowIn.put2 hF hilt ho hfl
    · unfold waitsB at hj
      rw [ho] at hj
      simp only [Option.map_some, Option.getD_some, List.any_eq_true, Bool.and_eq_true, beq_iff_eq] at hj
      obtain ⟨e, he, hb, hon⟩ := hj
      have he := Array.mem_toList_iff.1 he
      subst hon
      have := hdown' i o ho e he hb
      simp [h2 e he hb]
      omega
  · intro l a w hl hr hJ
    refine (fun hall => by rw [FlowIn.eq_puts hF hall, hpv]; exact hdone w hJ.1 : FlowIn ops V a0 (fun j => decide (j < ops.size)) a → Q .normal a w) (hJ.2.weaken fun j hj => ?_)
    simp at hj
    simp only [hj, decide_true, Bool.true_and]
    cases hlj : l.getD j false with
    | true => rfl
    | false =>
      exfalso
      have hex : ∃ i : Nat, l[i]? = some false := ⟨j, by
        have : j < l.size := by omega
        simp [Array.getD, this] at hlj
        rw [Array.getElem?_eq_getElem this, hlj]⟩
      have hmin : ∃ i : Nat, l[i]? = some false ∧ ∀ j : Nat, j < i → l[j]? ≠ some false := by
        obtain ⟨i, hi⟩ := hex
        induction i using Nat.strongRecOn with
        | ind i ih =>
          by_cases h : ∃ j, j < i ∧ l[j]? = some false
          · obtain ⟨j, hj, hlj⟩ := h
            exact ih j hj hlj
          · exact ⟨i, hi, fun j hj hlj => h ⟨j, hj, hlj⟩⟩
      obtain ⟨i, hi, hmin⟩ := hmin
      have hilt := (Array.getElem?_eq_some_iff.1 hi).1
      have : i ∈ Region.ready .any ops l := (ready_iff hl i).2 ⟨hi, ops[i]'(by omega), Array.getElem?_eq_getElem _, fun e he hbi => by
        have h3 := hdown' i _ (Array.getElem?_eq_getElem (by omega)) e he hbi
        have h4 := hmin e.on h3
        have h5 : e.on < l.size := by omega
        rw [Array.getElem?_eq_getElem h5] at h4
        simp [Array.getD, h5]
        cases hc : l[e.on] with
        | true => rfl
        | false => rw [hc] at h4; exact absurd rfl h4⟩
      rw [hr] at this
      cases this
  · refine ⟨hS, rfl, rfl, fun _ _ => rfl, fun j t hj _ => ?_⟩
    simp [Array.getD] at hj

theorem wanted_of {o : Oper} {g : Nat} {b : Bool} {t : Tmp} {tmps : Array Value} (hg : o.guard = some (g, b)) (hd : dstOf ops g = some t) (hv : tmps[t]? = some (.bool b)) : Region.wanted o (yielded ops tmps) = true := by
  have hy : yielded ops tmps g = some b := by
    unfold yielded
    unfold dstOf at hd
    rw [hd]
    simp [hv]
  simp [Region.wanted, hg, hy]
theorem eval_of {a : Act} {t : Tmp} {v : Value} (h : a.tmps[t]? = some v) : a.eval (.tmp t) = v := by
  simp [Act.eval, Array.getD_eq_getD_getElem?, h]
end
end Go.Proofs.Ytnenpfalhbbadaa
