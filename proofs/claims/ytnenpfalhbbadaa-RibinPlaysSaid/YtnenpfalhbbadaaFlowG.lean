/- A region that draws its order, by a ghost: what the operations yield may hang on what was made meanwhile. -/
import Derived.Test.YtnenpfalhbbadaaFlowV
namespace Go.Proofs.Ytnenpfalhbbadaa
open Go

section
variable {P : Program} {ops : Array Oper} {Q : Exit → Act → World → Prop}
theorem wp_region_flowG {id : Nat} {a0 : Act} {w0 : World} {G : Type} (V : G → Nat → Value) (J : (Nat → Bool) → G → World → Prop) (g0 : G) (pv : G → List (Option Tmp × Value))
    (hm : P.follows .mixedOrders = true) (hF : flowB2 ops a0.tmps.size = true) (hS : J (fun _ => false) g0 w0.drew)
    (hstep : ∀ i, i < ops.size → ∀ (d : Nat → Bool) g a w, d i = false → (∀ j, waitsB ops i j = true → d j = true) → (∀ j, d j = true → ∀ x, waitsB ops j x = true → d x = true) → J d g w → FlowIn ops (V g) a0 (waitsB ops i) a →
      wpOp P ops Q i (fun a' w' => ∃ g', a' = a.put (dstOf ops i) (V g' i) ∧ J (fun j => j == i || d j) g' w' ∧ ∀ j, d j = true → V g' j = V g j) a w)
    (hpv : ∀ g, (List.range ops.size).map (fun i => (dstOf ops i, V g i)) = pv g) (hdone : ∀ d g w, (∀ j, j < ops.size → d j = true) → J d g w → Q .normal (puts (pv g) a0) w) : (Code.region id ops true).wp P Q a0 w0 := by
  have hF0 := hF
  simp only [flowB2, Bool.and_eq_true, List.all_eq_true, List.mem_range] at hF0
  obtain ⟨⟨hdown, -⟩, -⟩ := hF0
  have hdown' : ∀ (i : Nat) (o : Oper), ops[i]? = some o → ∀ e ∈ o.after, Region.binds .any e = true → e.on < i := by
    intro i o ho e he hbi
    have hmem : (o, i) ∈ ops.toList.zipIdx := by
      rw [List.mem_zipIdx_iff_getElem?]
      simpa using ho
    have := hdown (o, i) hmem
    simpa [hbi] using this e (Array.mem_toList_iff.2 he)
  let D : Array Bool → Nat → Bool := fun l j => decide (j < ops.size) && l.getD j false
  have hwait : ∀ (l : Array Bool) (i : Nat) (o : Oper), ops[i]? = some o → (∀ e ∈ o.after, Region.binds .any e = true → l.getD e.on false = true) → ∀ j, waitsB ops i j = true → D l j = true := by
    intro l i o ho h2 j hj
    have hilt : i < ops.size := (Array.getElem?_eq_some_iff.1 ho).1
    unfold waitsB at hj
    rw [ho] at hj
    simp only [Option.map_some, Option.getD_some, List.any_eq_true, Bool.and_eq_true, beq_iff_eq] at hj
    obtain ⟨e, he, hb, hon⟩ := hj
    have he := Array.mem_toList_iff.1 he
    subst hon
    have := hdown' i o ho e he hb
    show (decide (e.on < ops.size) && l.getD e.on false) = true
    rw [h2 e he hb]
    simp
    omega
  have getD_set : ∀ (l : Array Bool) i j, l.size = ops.size → i < ops.size → (l.setIfInBounds i true).getD j false = (j == i || l.getD j false) := fun l i j hl hi => by
    simp only [Array.getD_eq_getD_getElem?, Array.getElem?_setIfInBounds]
    by_cases hij : i = j
    · subst hij
      simp [show i < l.size by omega]
    · have : (j == i) = false := by simpa using Ne.symm hij
      simp [hij, this]
  have D_set : ∀ (l : Array Bool) i, l.size = ops.size → i < ops.size → D (l.setIfInBounds i true) = fun j => j == i || D l j := fun l i hl hi => by
    funext j
    show (decide (j < ops.size) && (l.setIfInBounds i true).getD j false) = (j == i || (decide (j < ops.size) && l.getD j false))
    rw [getD_set l i j hl hi]
    by_cases hij : j = i
    · subst hij
      simp [hi]
    · have : (j == i) = false := by simpa using hij
      rw [this]
      simp
  refine wp_region_any hm ?_
  refine wpAny_inv (fun l a w => ∃ g, J (D l) g w ∧ FlowIn ops (V g) a0 (D l) a ∧ ∀ j, D l j = true → ∀ x, waitsB ops j x = true → D l x = true) ?_ ?_ ops.size (Array.replicate ops.size false) a0 _ (by simp) (by simp [unl]) ?_
  · intro i l a w hl hi hJ
    obtain ⟨h1, o, ho, h2⟩ := (ready_iff hl i).1 hi
    obtain ⟨g, hJ, hfl, hcl⟩ := hJ
    have hilt : i < ops.size := (Array.getElem?_eq_some_iff.1 ho).1
    have hdo : dstOf ops i = o.dst := by unfold dstOf; rw [ho]; rfl
    have h1' : D l i = false := by simp [D, Array.getD_eq_getD_getElem?, h1]
    have hw := hwait l i o ho h2
    refine wpOp_mono (fun a' w' hq => ?_) (hstep i hilt (D l) g a w h1' hw hcl hJ (hfl.weaken fun j hj => hw j hj))
    obtain ⟨g', rfl, hJ', hV⟩ := hq
    refine ⟨g', by rw [D_set l i hl hilt]; exact hJ', ?_, ?_⟩
    · rw [hdo]
      exact FlowIn.put2 hF hilt ho (hfl.congr fun j hj => (hV j hj).symm)
    · rw [D_set l i hl hilt]
      intro j hj x hx
      rw [Bool.or_eq_true] at hj ⊢
      rcases hj with hj | hj
      · have e : j = i := by simpa using hj
        subst e
        exact .inr (hw x hx)
      · exact .inr (hcl j hj x hx)
  · intro l a w hl hr hJ
    have hall : ∀ j, j < ops.size → l.getD j false = true := by
      intro j hj
      cases hlj : l.getD j false with
      | true => rfl
      | false =>
        exfalso
        have hex : ∃ i : Nat, l[i]? = some false := ⟨j, by
          have : j < l.size := by omega
          simp [Array.getD, this] at hlj
          rw [Array.getElem?_eq_getElem this, hlj]⟩
        have hmin : ∃ i : Nat, l[i]? = some false ∧ ∀ j : Nat, j < i → l[j]? ≠ some false := by
          obtain ⟨i, hi⟩ := hex
          induction i using Nat.strongRecOn with
          | ind i ih =>
            by_cases h : ∃ j, j < i ∧ l[j]? = some false
            · obtain ⟨j, hj, hlj⟩ := h
              exact ih j hj hlj
            · exact ⟨i, hi, fun j hj hlj => h ⟨j, hj, hlj⟩⟩
        obtain ⟨i, hi, hmin⟩ := hmin
        have hilt := (Array.getElem?_eq_some_iff.1 hi).1
        have : i ∈ Region.ready .any ops l := (ready_iff hl i).2 ⟨hi, ops[i]'(by omega), Array.getElem?_eq_getElem _, fun e he hbi => by
          have h3 := hdown' i _ (Array.getElem?_eq_getElem (by omega)) e he hbi
          have h4 := hmin e.on h3
          have h5 : e.on < l.size := by omega
          rw [Array.getElem?_eq_getElem h5] at h4
          simp [Array.getD, h5]
          cases hc : l[e.on] with
          | true => rfl
          | false => rw [hc] at h4; exact absurd rfl h4⟩
        rw [hr] at this
        cases this
    obtain ⟨g, hJ, hfl, hcl⟩ := hJ
    have hD : ∀ j, j < ops.size → D l j = true := fun j hj => by
      show (decide (j < ops.size) && l.getD j false) = true
      rw [hall j hj]
      simp [hj]
    have hfl' : FlowIn ops (V g) a0 (fun j => decide (j < ops.size)) a := hfl.weaken fun j hj => hD j (by simpa using hj)
    rw [FlowIn.eq_puts hF hfl', hpv g]
    exact hdone (D l) g w hD hJ
  · have hD0 : D (Array.replicate ops.size false) = fun _ => false := by
      funext j
      simp [D, Array.getD]
    refine ⟨g0, by rw [hD0]; exact hS, ?_, ?_⟩
    · rw [hD0]
      exact ⟨rfl, rfl, fun _ _ => rfl, fun j t hj _ => by cases hj⟩
    · rw [hD0]
      intro j hj
      cases hj
end
end Go.Proofs.Ytnenpfalhbbadaa
