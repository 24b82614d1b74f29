/- A region that draws its order, with one operation whose value is not known ahead and one that stores; every other one yields one value. -/
import Derived.Test.YtnenpfalhbbadaaFlow
namespace Go.Proofs.Ytnenpfalhbbadaa
open Go

section
variable {P : Program} {ops : Array Oper} {Q : Exit → Act → World → Prop}

theorem FlowIn.congr {V V' : Nat → Value} {a0 a : Act} {W : Nat → Bool} (h : FlowIn ops V a0 W a) (hv : ∀ j, W j = true → V j = V' j) : FlowIn ops V' a0 W a :=
  ⟨h.size, h.defers, h.base, fun j t hj ht => by rw [← hv j hj]; exact h.val j t hj ht⟩
/-- the values, where that of k is q -/
def vAt (V : Nat → Value) (k : Nat) (q : Value) (i : Nat) : Value := if i = k then q else V i
theorem wp_region_flowU {id : Nat} {a0 : Act} {w0 : World} (V : Nat → Value) (k s : Nat) (S : Bool → World → Prop) (E : Value → Bool → World → Prop) (pv : Value → List (Option Tmp × Value))
    (hm : P.follows .mixedOrders = true) (hF : flowB2 ops a0.tmps.size = true) (hk : k < ops.size) (hs : s < ops.size) (hks : (k == s) = false) (hsk : waitsB ops s k = true) (hds : dstOf ops s = none) (hS : S false w0.drew)
    (hstep : ∀ i, i < ops.size → i ≠ k → i ≠ s → ∀ b a w, S b w → FlowIn ops V a0 (fun j => waitsB ops i j && (j != k)) a → wpOp P ops Q i (fun a' w' => a' = a.put (dstOf ops i) (V i) ∧ S b w' ∧ ∀ q, E q b w → E q b w') a w)
    (hmake : ∀ a w, S false w → FlowIn ops V a0 (waitsB ops k) a → wpOp P ops Q k (fun a' w' => ∃ q, a' = a.put (dstOf ops k) q ∧ S false w' ∧ E q false w') a w)
    (hfill : ∀ q a w, S false w → E q false w → FlowIn ops (vAt V k q) a0 (waitsB ops s) a → wpOp P ops Q s (fun a' w' => a' = a ∧ S true w' ∧ E q true w') a w)
    (hpv : ∀ q, (List.range ops.size).map (fun i => (dstOf ops i, vAt V k q i)) = pv q) (hdone : ∀ q w, S true w → E q true w → Q .normal (puts (pv q) a0) w) : (Code.region id ops true).wp P Q a0 w0 := by
  have hF0 := hF
  simp only [flowB2, Bool.and_eq_true, List.all_eq_true, List.mem_range] at hF0
  obtain ⟨⟨hdown, -⟩, -⟩ := hF0
  have hdown' : ∀ (i : Nat) (o : Oper), ops[i]? = some o → ∀ e ∈ o.after, Region.binds .any e = true → e.on < i := by
    intro i o ho e he hbi
    have hmem : (o, i) ∈ ops.toList.zipIdx := by
      rw [List.mem_zipIdx_iff_getElem?]
      simpa using ho
    have := hdown (o, i) hmem
    simpa [hbi] using this e (Array.mem_toList_iff.2 he)
  have hks' : k ≠ s := by simpa using hks
  have hwait : ∀ (l : Array Bool) (i : Nat) (o : Oper), ops[i]? = some o → (∀ e ∈ o.after, Region.binds .any e = true → l.getD e.on false = true) → ∀ j, waitsB ops i j = true → (decide (j < ops.size) && l.getD j false) = true := by
    intro l i o ho h2 j hj
    have hilt : i < ops.size := (Array.getElem?_eq_some_iff.1 ho).1
    unfold waitsB at hj
    rw [ho] at hj
    simp only [Option.map_some, Option.getD_some, List.any_eq_true, Bool.and_eq_true, beq_iff_eq] at hj
    obtain ⟨e, he, hb, hon⟩ := hj
    have he := Array.mem_toList_iff.1 he
    subst hon
    have := hdown' i o ho e he hb
    simp [h2 e he hb]
    omega
  have getD_set : ∀ (l : Array Bool) i j, l.size = ops.size → i < ops.size → (l.setIfInBounds i true).getD j false = (j == i || l.getD j false) := fun l i j hl hi => by
    simp only [Array.getD_eq_getD_getElem?, Array.getElem?_setIfInBounds]
    by_cases hij : i = j
    · subst hij
      simp [show i < l.size by omega]
    · have : (j == i) = false := by simpa using Ne.symm hij
      simp [hij, this]
  refine wp_region_any hm ?_
  let D : Array Bool → Nat → Bool := fun l j => decide (j < ops.size) && l.getD j false
  refine wpAny_inv (fun l a w => S (l.getD s false) w ∧ ((l.getD k false = false ∧ l.getD s false = false ∧ ∀ q, FlowIn ops (vAt V k q) a0 (D l) a) ∨ (l.getD k false = true ∧ ∃ q, FlowIn ops (vAt V k q) a0 (D l) a ∧ E q (l.getD s false) w))) ?_ ?_ ops.size (Array.replicate ops.size false) a0 _ (by simp) (by simp [unl]) ?_
  · intro i l a w hl hi hJ
    obtain ⟨h1, o, ho, h2⟩ := (ready_iff hl i).1 hi
    obtain ⟨hSw, hJ⟩ := hJ
    have hilt : i < ops.size := (Array.getElem?_eq_some_iff.1 ho).1
    have hdo : dstOf ops i = o.dst := by unfold dstOf; rw [ho]; rfl
    have h1' : l.getD i false = false := by simp [Array.getD_eq_getD_getElem?, h1]
    by_cases hik : i = k
    · subst hik
      rcases hJ with ⟨hk0, hs0, hfl⟩ | ⟨hk1, _⟩
      · rw [hs0] at hSw
        have hflV : FlowIn ops V a0 (waitsB ops i) a := by
          refine ((hfl (V i)).weaken fun j hj => hwait l i o ho h2 j hj).congr fun j hj => ?_
          unfold vAt
          split
          · rename_i e
            rw [e]
          · rfl
        refine wpOp_mono (fun a' w' hq => ?_) (hmake a w hSw hflV)
        obtain ⟨q, rfl, hS', hE⟩ := hq
        refine ⟨by rw [getD_set l i s hl hilt, hs0, show (s == i) = false by simpa using hks'.symm]; exact hS', .inr ⟨by rw [getD_set l i i hl hilt]; simp, q, ?_, ?_⟩⟩
        · have := FlowIn.put2 hF hilt ho (hfl q)
          rw [hdo]
          rw [show vAt V i q i = q by unfold vAt; rw [if_pos rfl]] at this
          exact this
        · rw [getD_set l i s hl hilt, hs0, show (s == i) = false by simpa using hks'.symm]
          exact hE
      · rw [h1'] at hk1; cases hk1
    · by_cases his : i = s
      · subst his
        rcases hJ with ⟨hk0, _, _⟩ | ⟨hk1, q, hfl, hE⟩
        · have := hwait l i o ho h2 k hsk
          simp only [Bool.and_eq_true] at this
          rw [hk0] at this
          cases this.2
        · rw [h1'] at hE hSw
          refine wpOp_mono (fun a' w' hq => ?_) (hfill q a w hSw hE (hfl.weaken fun j hj => hwait l i o ho h2 j hj))
          obtain ⟨rfl, hS', hE'⟩ := hq
          refine ⟨by rw [getD_set l i i hl hilt]; simpa using hS', .inr ⟨by rw [getD_set l i k hl hilt, hk1]; simp, q, ?_, ?_⟩⟩
          · have := FlowIn.put2 hF hilt ho hfl
            rw [← hdo, hds] at this
            exact this
          · rw [getD_set l i i hl hilt]
            simpa using hE'
      · have hflV : FlowIn ops V a0 (fun j => waitsB ops i j && (j != k)) a := by
          rcases hJ with ⟨_, _, hfl⟩ | ⟨_, q, hfl, _⟩
          · refine ((hfl undef).weaken fun j hj => hwait l i o ho h2 j (by simp at hj; exact hj.1)).congr fun j hj => ?_
            simp at hj
            unfold vAt
            rw [if_neg hj.2]
          · refine (hfl.weaken fun j hj => hwait l i o ho h2 j (by simp at hj; exact hj.1)).congr fun j hj => ?_
            simp at hj
            unfold vAt
            rw [if_neg hj.2]
        have hvi : ∀ q, vAt V k q i = V i := fun q => by unfold vAt; rw [if_neg hik]
        have hks0 : (k == i) = false := by simpa using Ne.symm hik
        have hss0 : (s == i) = false := by simpa using Ne.symm his
        refine wpOp_mono (fun a' w' hq => ?_) (hstep i hilt hik his _ a w hSw hflV)
        obtain ⟨rfl, hS', hE'⟩ := hq
        refine ⟨by rw [getD_set l i s hl hilt, hss0, Bool.false_or]; exact hS', ?_⟩
        rcases hJ with ⟨hk0, hs0, hfl⟩ | ⟨hk1, q, hfl, hE⟩
        · refine .inl ⟨by rw [getD_set l i k hl hilt, hk0, hks0]; rfl, by rw [getD_set l i s hl hilt, hs0, hss0]; rfl, fun q => ?_⟩
          rw [hdo]
          have := FlowIn.put2 hF hilt ho (hfl q)
          rw [hvi q] at this
          exact this
        · refine .inr ⟨by rw [getD_set l i k hl hilt, hk1]; simp, q, ?_, ?_⟩
          · rw [hdo]
            have := FlowIn.put2 hF hilt ho hfl
            rw [hvi q] at this
            exact this
          · rw [getD_set l i s hl hilt, hss0, Bool.false_or]
            exact hE' _ hE
  · intro l a w hl hr hJ
    have hall : ∀ j, j < ops.size → l.getD j false = true := by
      intro j hj
      cases hlj : l.getD j false with
      | true => rfl
      | false =>
        exfalso
        have hex : ∃ i : Nat, l[i]? = some false := ⟨j, by
          have : j < l.size := by omega
          simp [Array.getD, this] at hlj
          rw [Array.getElem?_eq_getElem this, hlj]⟩
        have hmin : ∃ i : Nat, l[i]? = some false ∧ ∀ j : Nat, j < i → l[j]? ≠ some false := by
          obtain ⟨i, hi⟩ := hex
          induction i using Nat.strongRecOn with
          | ind i ih =>
            by_cases h : ∃ j, j < i ∧ l[j]? = some false
            · obtain ⟨j, hj, hlj⟩ := h
              exact ih j hj hlj
            · exact ⟨i, hi, fun j hj hlj => h ⟨j, hj, hlj⟩⟩
        obtain ⟨i, hi, hmin⟩ := hmin
        have hilt := (Array.getElem?_eq_some_iff.1 hi).1
        have : i ∈ Region.ready .any ops l := (ready_iff hl i).2 ⟨hi, ops[i]'(by omega), Array.getElem?_eq_getElem _, fun e he hbi => by
          have h3 := hdown' i _ (Array.getElem?_eq_getElem (by omega)) e he hbi
          have h4 := hmin e.on h3
          have h5 : e.on < l.size := by omega
          rw [Array.getElem?_eq_getElem h5] at h4
          simp [Array.getD, h5]
          cases hc : l[e.on] with
          | true => rfl
          | false => rw [hc] at h4; exact absurd rfl h4⟩
        rw [hr] at this
        cases this
    obtain ⟨hSw, ⟨hk0, _, _⟩ | ⟨_, q, hfl, hE⟩⟩ := hJ
    · rw [hall k hk] at hk0; cases hk0
    · rw [hall s hs] at hE hSw
      have hfl' : FlowIn ops (vAt V k q) a0 (fun j => decide (j < ops.size)) a := hfl.weaken fun j hj => by
        simp at hj
        show (decide (j < ops.size) && l.getD j false) = true
        rw [hall j hj]
        simp [hj]
      rw [FlowIn.eq_puts hF hfl', hpv q]
      exact hdone q w hSw hE
  · refine ⟨by simpa [Array.getD] using hS, .inl ⟨by simp [Array.getD], by simp [Array.getD], fun q => ⟨rfl, rfl, fun _ _ => rfl, fun j t hj _ => ?_⟩⟩⟩
    simp [D, Array.getD] at hj
end
end Go.Proofs.Ytnenpfalhbbadaa
