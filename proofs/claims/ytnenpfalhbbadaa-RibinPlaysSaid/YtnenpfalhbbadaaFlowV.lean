/- A region that draws its order, with one operation whose value is not known ahead; what waits for it yields by that value. -/
import Derived.Test.YtnenpfalhbbadaaFlowU
namespace Go.Proofs.Ytnenpfalhbbadaa
open Go

section
variable {P : Program} {ops : Array Oper} {Q : Exit → Act → World → Prop}
/-- what does not wait for k, waits for nothing that does -/
def pureB (ops : Array Oper) (k : Nat) : Bool :=
  (List.range ops.size).all fun i => (!(i == k) && waitsB ops i k) || (List.range ops.size).all fun j => !(waitsB ops i j) || (!(j == k) && !(waitsB ops j k))
theorem wp_region_flowV {id : Nat} {a0 : Act} {w0 : World} (V : Value → Nat → Value) (k : Nat) (S : World → Prop) (E : Value → World → Prop) (pv : Value → List (Option Tmp × Value))
    (hm : P.follows .mixedOrders = true) (hF : flowB2 ops a0.tmps.size = true) (hk : k < ops.size) (hp : pureB ops k = true) (hVk : ∀ q, V q k = q) (hV : ∀ q i, i < ops.size → (i == k || waitsB ops i k) = false → V q i = V undef i) (hS : S w0.drew)
    (hstep : ∀ i, i < ops.size → i ≠ k → waitsB ops i k = false → ∀ a w, S w → FlowIn ops (V undef) a0 (waitsB ops i) a → wpOp P ops Q i (fun a' w' => a' = a.put (dstOf ops i) (V undef i) ∧ S w' ∧ ∀ q, E q w → E q w') a w)
    (hmake : ∀ a w, S w → FlowIn ops (V undef) a0 (waitsB ops k) a → wpOp P ops Q k (fun a' w' => ∃ q, a' = a.put (dstOf ops k) q ∧ S w' ∧ E q w') a w)
    (hnext : ∀ i, i < ops.size → i ≠ k → waitsB ops i k = true → ∀ q a w, S w → E q w → FlowIn ops (V q) a0 (waitsB ops i) a → wpOp P ops Q i (fun a' w' => a' = a.put (dstOf ops i) (V q i) ∧ S w' ∧ E q w') a w)
    (hpv : ∀ q, (List.range ops.size).map (fun i => (dstOf ops i, V q i)) = pv q) (hdone : ∀ q w, S w → E q w → Q .normal (puts (pv q) a0) w) : (Code.region id ops true).wp P Q a0 w0 := by
  have hF0 := hF
  simp only [flowB2, Bool.and_eq_true, List.all_eq_true, List.mem_range] at hF0
  obtain ⟨⟨hdown, -⟩, -⟩ := hF0
  have hdown' : ∀ (i : Nat) (o : Oper), ops[i]? = some o → ∀ e ∈ o.after, Region.binds .any e = true → e.on < i := by
    intro i o ho e he hbi
    have hmem : (o, i) ∈ ops.toList.zipIdx := by
      rw [List.mem_zipIdx_iff_getElem?]
      simpa using ho
    have := hdown (o, i) hmem
    simpa [hbi] using this e (Array.mem_toList_iff.2 he)
  have hwait : ∀ (l : Array Bool) (i : Nat) (o : Oper), ops[i]? = some o → (∀ e ∈ o.after, Region.binds .any e = true → l.getD e.on false = true) → ∀ j, waitsB ops i j = true → (decide (j < ops.size) && l.getD j false) = true := by
    intro l i o ho h2 j hj
    have hilt : i < ops.size := (Array.getElem?_eq_some_iff.1 ho).1
    unfold waitsB at hj
    rw [ho] at hj
    simp only [Option.map_some, Option.getD_some, List.any_eq_true, Bool.and_eq_true, beq_iff_eq] at hj
    obtain ⟨e, he, hb, hon⟩ := hj
    have he := Array.mem_toList_iff.1 he
    subst hon
    have := hdown' i o ho e he hb
    simp [h2 e he hb]
    omega
  have getD_set : ∀ (l : Array Bool) i j, l.size = ops.size → i < ops.size → (l.setIfInBounds i true).getD j false = (j == i || l.getD j false) := fun l i j hl hi => by
    simp only [Array.getD_eq_getD_getElem?, Array.getElem?_setIfInBounds]
    by_cases hij : i = j
    · subst hij
      simp [show i < l.size by omega]
    · have : (j == i) = false := by simpa using Ne.symm hij
      simp [hij, this]
  have hpu : ∀ i, i < ops.size → (i = k ∨ waitsB ops i k = false) → ∀ j, waitsB ops i j = true → j < ops.size → (j == k || waitsB ops j k) = false := by
    intro i hi hik j hj hjl
    have h := List.all_eq_true.1 hp i (List.mem_range.2 hi)
    rw [Bool.or_eq_true] at h
    rcases h with h | h
    · exfalso
      rw [Bool.and_eq_true] at h
      rcases hik with rfl | hik
      · simp at h
      · rw [hik] at h; exact absurd h.2 (by decide)
    · have h := List.all_eq_true.1 h j (List.mem_range.2 hjl)
      rw [hj] at h
      simpa using h
  refine wp_region_any hm ?_
  let D : Array Bool → Nat → Bool := fun l j => decide (j < ops.size) && l.getD j false
  refine wpAny_inv (fun l a w => S w ∧ ((l.getD k false = false ∧ ∀ q, FlowIn ops (V q) a0 (D l) a) ∨ (l.getD k false = true ∧ ∃ q, FlowIn ops (V q) a0 (D l) a ∧ E q w))) ?_ ?_ ops.size (Array.replicate ops.size false) a0 _ (by simp) (by simp [unl]) ?_
  · intro i l a w hl hi hJ
    obtain ⟨h1, o, ho, h2⟩ := (ready_iff hl i).1 hi
    obtain ⟨hSw, hJ⟩ := hJ
    have hilt : i < ops.size := (Array.getElem?_eq_some_iff.1 ho).1
    have hdo : dstOf ops i = o.dst := by unfold dstOf; rw [ho]; rfl
    have h1' : l.getD i false = false := by simp [Array.getD_eq_getD_getElem?, h1]
    have hundef : ∀ q, (i = k ∨ waitsB ops i k = false) → FlowIn ops (V q) a0 (D l) a → FlowIn ops (V undef) a0 (waitsB ops i) a := fun q hik hfl => by
      refine (hfl.weaken fun j hj => hwait l i o ho h2 j hj).congr fun j hj => ?_
      have hjl := hwait l i o ho h2 j hj
      simp at hjl
      exact hV q j hjl.1 (hpu i hilt hik j hj hjl.1)
    by_cases hik : i = k
    · subst hik
      rcases hJ with ⟨hk0, hfl⟩ | ⟨hk1, _⟩
      · refine wpOp_mono (fun a' w' hq => ?_) (hmake a w hSw (hundef undef (.inl rfl) (hfl undef)))
        obtain ⟨q, rfl, hS', hE⟩ := hq
        refine ⟨hS', .inr ⟨by rw [getD_set l i i hl hilt]; simp, q, ?_, hE⟩⟩
        have := FlowIn.put2 hF hilt ho (hfl q)
        rw [hdo]
        rw [hVk q] at this
        exact this
      · rw [h1'] at hk1; cases hk1
    · have hks0 : (k == i) = false := by simpa using Ne.symm hik
      cases hwk : waitsB ops i k with
      | true =>
        have hkd := hwait l i o ho h2 k hwk
        rw [Bool.and_eq_true] at hkd
        rcases hJ with ⟨hk0, _⟩ | ⟨hk1, q, hfl, hE⟩
        · rw [hkd.2] at hk0; cases hk0
        · refine wpOp_mono (fun a' w' hq => ?_) (hnext i hilt hik hwk q a w hSw hE (hfl.weaken fun j hj => hwait l i o ho h2 j hj))
          obtain ⟨rfl, hS', hE'⟩ := hq
          refine ⟨hS', .inr ⟨by rw [getD_set l i k hl hilt, hk1]; simp, q, ?_, hE'⟩⟩
          rw [hdo]
          exact FlowIn.put2 hF hilt ho hfl
      | false =>
        have hvi : ∀ q, V q i = V undef i := fun q => hV q i hilt (by rw [hwk]; simpa using hik)
        have hflV : FlowIn ops (V undef) a0 (waitsB ops i) a := by
          rcases hJ with ⟨_, hfl⟩ | ⟨_, q, hfl, _⟩
          · exact hundef undef (.inr hwk) (hfl undef)
          · exact hundef q (.inr hwk) hfl
        refine wpOp_mono (fun a' w' hq => ?_) (hstep i hilt hik hwk a w hSw hflV)
        obtain ⟨rfl, hS', hE'⟩ := hq
        refine ⟨hS', ?_⟩
        rcases hJ with ⟨hk0, hfl⟩ | ⟨hk1, q, hfl, hE⟩
        · refine .inl ⟨by rw [getD_set l i k hl hilt, hk0, hks0]; rfl, fun q => ?_⟩
          rw [hdo]
          have := FlowIn.put2 hF hilt ho (hfl q)
          rw [hvi q] at this
          exact this
        · refine .inr ⟨by rw [getD_set l i k hl hilt, hk1]; simp, q, ?_, hE' _ hE⟩
          rw [hdo]
          have := FlowIn.put2 hF hilt ho hfl
          rw [hvi q] at this
          exact this
  · intro l a w hl hr hJ
    have hall : ∀ j, j < ops.size → l.getD j false = true := by
      intro j hj
      cases hlj : l.getD j false with
      | true => rfl
      | false =>
        exfalso
        have hex : ∃ i : Nat, l[i]? = some false := ⟨j, by
          have : j < l.size := by omega
          simp [Array.getD, this] at hlj
          rw [Array.getElem?_eq_getElem this, hlj]⟩
        have hmin : ∃ i : Nat, l[i]? = some false ∧ ∀ j : Nat, j < i → l[j]? ≠ some false := by
          obtain ⟨i, hi⟩ := hex
          induction i using Nat.strongRecOn with
          | ind i ih =>
            by_cases h : ∃ j, j < i ∧ l[j]? = some false
            · obtain ⟨j, hj, hlj⟩ := h
              exact ih j hj hlj
            · exact ⟨i, hi, fun j hj hlj => h ⟨j, hj, hlj⟩⟩
        obtain ⟨i, hi, hmin⟩ := hmin
        have hilt := (Array.getElem?_eq_some_iff.1 hi).1
        have : i ∈ Region.ready .any ops l := (ready_iff hl i).2 ⟨hi, ops[i]'(by omega), Array.getElem?_eq_getElem _, fun e he hbi => by
          have h3 := hdown' i _ (Array.getElem?_eq_getElem (by omega)) e he hbi
          have h4 := hmin e.on h3
          have h5 : e.on < l.size := by omega
          rw [Array.getElem?_eq_getElem h5] at h4
          simp [Array.getD, h5]
          cases hc : l[e.on] with
          | true => rfl
          | false => rw [hc] at h4; exact absurd rfl h4⟩
        rw [hr] at this
        cases this
    obtain ⟨hSw, ⟨hk0, _⟩ | ⟨_, q, hfl, hE⟩⟩ := hJ
    · rw [hall k hk] at hk0; cases hk0
    · have hfl' : FlowIn ops (V q) a0 (fun j => decide (j < ops.size)) a := hfl.weaken fun j hj => by
        simp at hj
        show (decide (j < ops.size) && l.getD j false) = true
        rw [hall j hj]
        simp [hj]
      rw [FlowIn.eq_puts hF hfl', hpv q]
      exact hdone q w hSw hE
  · refine ⟨by simpa using hS, .inl ⟨by simp [Array.getD], fun q => ⟨rfl, rfl, fun _ _ => rfl, fun j t hj _ => ?_⟩⟩⟩
    simp [D, Array.getD] at hj
end
end Go.Proofs.Ytnenpfalhbbadaa
