/- Which candidate is taken, as plain data: keys, their order, the one that is taken by groups, the ones that are left step by step; that both are one. No program here. -/
import Derived.Test.YthfchjcbkmabpaaRB
namespace Go.Proofs.Ythfchjcbkmabpaa

/-- no greater, the first that differs says -/
def lle : List Int → List Int → Prop
  | a :: r, b :: s => a < b ∨ a = b ∧ lle r s
  | _, _ => True
instance lleDec : ∀ (a b : List Int), Decidable (lle a b)
  | [], _ => isTrue (by simp [lle])
  | _ :: _, [] => isTrue (by simp [lle])
  | a :: r, b :: s => by
    have := lleDec r s
    unfold lle
    exact inferInstance
theorem lle_refl : ∀ a, lle a a
  | [] => by simp [lle]
  | a :: r => .inr ⟨rfl, lle_refl r⟩
theorem lle_trans : ∀ {a b c : List Int}, a.length = b.length → b.length = c.length → lle a b → lle b c → lle a c
  | [], _, _, _, _, _, _ => by simp [lle]
  | a :: r, [], _, h, _, _, _ => by simp at h
  | a :: r, b :: s, [], _, h, _, _ => by simp at h
  | a :: r, b :: s, c :: t, h1, h2, p, q => by
    unfold lle at *
    rcases p with p | ⟨rfl, p⟩
    · rcases q with q | ⟨rfl, q⟩
      · exact .inl (by omega)
      · exact .inl p
    · rcases q with q | ⟨rfl, q⟩
      · exact .inl q
      · exact .inr ⟨rfl, lle_trans (by simpa using h1) (by simpa using h2) p q⟩
theorem lle_total : ∀ (a b : List Int), lle a b ∨ lle b a
  | [], _ => .inl (by simp [lle])
  | _ :: _, [] => .inl (by simp [lle])
  | a :: r, b :: s => by
    unfold lle
    rcases Int.lt_trichotomy a b with h | h | h
    · exact .inl (.inl h)
    · subst h
      rcases lle_total r s with h | h
      · exact .inl (.inr ⟨rfl, h⟩)
      · exact .inr (.inr ⟨rfl, h⟩)
    · exact .inr (.inl h)
theorem lle_antisymm : ∀ {a b : List Int}, a.length = b.length → lle a b → lle b a → a = b
  | [], [], _, _, _ => rfl
  | [], _ :: _, h, _, _ => by simp at h
  | _ :: _, [], h, _, _ => by simp at h
  | a :: r, b :: s, h, p, q => by
    unfold lle at *
    rcases p with p | ⟨rfl, p⟩
    · rcases q with q | ⟨rfl, q⟩ <;> omega
    · rcases q with q | ⟨_, q⟩
      · omega
      · rw [lle_antisymm (by simpa using h) p q]
theorem lle_append_left : ∀ {a b c d : List Int}, a.length = b.length → lle (a ++ c) (b ++ d) → lle a b
  | [], [], _, _, _, _ => by simp [lle]
  | [], _ :: _, _, _, h, _ => by simp at h
  | _ :: _, [], _, _, h, _ => by simp at h
  | a :: r, b :: s, c, d, h, p => by
    simp only [List.cons_append, lle] at p ⊢
    rcases p with p | ⟨rfl, p⟩
    · exact .inl p
    · exact .inr ⟨rfl, lle_append_left (by simpa using h) p⟩
theorem lle_append_same : ∀ (a : List Int) {c d : List Int}, lle (a ++ c) (a ++ d) ↔ lle c d
  | [], _, _ => Iff.rfl
  | a :: r, c, d => by
    simp only [List.cons_append, lle, lle_append_same r]
    simp

section
variable (K : Nat → Nat → Int) (Nr : Nat → Int)
def tK (i : Nat) : List Int := [K i 0, K i 1, K i 2]
def sK (i : Nat) : List Int := [K i 4, K i 5, K i 6, K i 7]
def rK (i : Nat) : List Int := sK K i ++ [(i : Int)]
def vK (med : Bool) (i : Nat) : List Int := tK K i ++ ((if med = true then [K i 3] else []) ++ rK K i)
theorem vK_len (med : Bool) (i k : Nat) : (vK K med i).length = (vK K med k).length := by cases med <;> rfl
theorem vK_inj {med : Bool} {i k : Nat} (h : vK K med i = vK K med k) : i = k := by
  have : (vK K med i).getLast? = (vK K med k).getLast? := by rw [h]
  cases med <;> simp [vK, rK, tK, sK] at this <;> omega
/-- of two places the one that is taken -/
def bet (med : Bool) (i k : Nat) : Nat := if lle (vK K med i) (vK K med k) then i else k

/-- at is the one that is taken of some places: the best of its neighbour's, and no worse than the best of any neighbour's -/
structure Win (xs : List Nat) (at' : Nat) : Prop where
  mem : at' ∈ xs
  near : ∀ j ∈ xs, Nr j = Nr at' → lle (vK K true at') (vK K true j)
  all : ∀ g ∈ xs, (∀ j ∈ xs, Nr j = Nr g → lle (vK K true g) (vK K true j)) → lle (vK K false at') (vK K false g)

theorem least_of {α : Type} (le : α → α → Prop) [DecidableRel le] (tr : ∀ a b c, le a b → le b c → le a c) (to : ∀ a b, le a b ∨ le b a) : ∀ (xs : List α), xs ≠ [] → ∃ m ∈ xs, ∀ j ∈ xs, le m j
  | [], h => absurd rfl h
  | [x], _ => ⟨x, by simp, fun j hj => by simp at hj; subst hj; exact (to j j).elim id id⟩
  | x :: y :: r, _ => by
    obtain ⟨m, hm, hle⟩ := least_of le tr to (y :: r) (by simp)
    rcases to x m with h | h
    · exact ⟨x, by simp, fun j hj => by
        rcases List.mem_cons.1 hj with rfl | hj
        · exact (to j j).elim id id
        · exact tr _ _ _ h (hle j hj)⟩
    · exact ⟨m, List.mem_cons_of_mem _ hm, fun j hj => by
        rcases List.mem_cons.1 hj with rfl | hj
        · exact h
        · exact hle j hj⟩
/-- each place's neighbour has a best one -/
theorem group_of (xs : List Nat) (k : Nat) (hk : k ∈ xs) : ∃ g ∈ xs, Nr g = Nr k ∧ ∀ j ∈ xs, Nr j = Nr g → lle (vK K true g) (vK K true j) := by
  obtain ⟨m, hm, hle⟩ := least_of (fun a b => lle (vK K true a) (vK K true b)) (fun a b c => lle_trans (vK_len K _ _ _) (vK_len K _ _ _)) (fun a b => lle_total _ _) (xs.filter fun j => decide (Nr j = Nr k)) (by
    intro h
    have : k ∈ xs.filter fun j => decide (Nr j = Nr k) := by simp [hk]
    rw [h] at this; simp at this)
  simp at hm
  exact ⟨m, hm.1, hm.2, fun j hj hn => hle j (by simp [hj, hn, hm.2])⟩
theorem win_uniq {xs : List Nat} {a b : Nat} (ha : Win K Nr xs a) (hb : Win K Nr xs b) : a = b :=
  vK_inj K (lle_antisymm (vK_len K _ _ _) (ha.all b hb.mem hb.near) (hb.all a ha.mem ha.near))

/-- those that are left behind a step -/
def leftP (xs : List Nat) (s : Nat) : List Nat := xs.filter fun i => xs.all fun k => !(decide (s ≠ 4 ∨ Nr i = Nr k) && decide (K k (s - 1) < K i (s - 1)))
theorem mem_leftP {xs : List Nat} {s i : Nat} : i ∈ leftP K Nr xs s ↔ i ∈ xs ∧ ∀ k ∈ xs, (s ≠ 4 ∨ Nr i = Nr k) → ¬ K k (s - 1) < K i (s - 1) := by
  unfold leftP
  rw [List.mem_filter, List.all_eq_true]
  constructor
  · rintro ⟨h1, h2⟩
    refine ⟨h1, fun k hk ha => ?_⟩
    have := h2 k hk
    simp [ha] at this
    omega
  · rintro ⟨h1, h2⟩
    refine ⟨h1, fun k hk => ?_⟩
    by_cases ha : s ≠ 4 ∨ Nr i = Nr k
    · have := h2 k hk ha
      simp [this]
    · simp [ha]
theorem leftP_sub (xs : List Nat) (s : Nat) : (leftP K Nr xs s).Sublist xs := List.filter_sublist
/-- those that are left behind steps -/
def leftsP : List Nat → List Nat → List Nat
  | xs, [] => xs
  | xs, s :: r => leftsP (leftP K Nr xs s) r
theorem leftsP_sub : ∀ (r xs : List Nat), (leftsP K Nr xs r).Sublist xs
  | [], _ => List.Sublist.refl _
  | s :: r, xs => (leftsP_sub r _).trans (leftP_sub K Nr xs s)
theorem leftsP_append : ∀ (a b xs : List Nat), leftsP K Nr xs (a ++ b) = leftsP K Nr (leftsP K Nr xs a) b
  | [], _, _ => rfl
  | _ :: a, b, _ => leftsP_append a b _
theorem mem_leftsP : ∀ (r xs : List Nat) (i : Nat), (∀ s ∈ r, s ≠ 4) → (i ∈ leftsP K Nr xs r ↔ i ∈ xs ∧ ∀ k ∈ xs, lle (r.map fun s => K i (s - 1)) (r.map fun s => K k (s - 1)))
  | [], xs, i, _ => by simp [leftsP, lle]
  | s :: r, xs, i, h => by
    rw [leftsP, mem_leftsP r _ i (fun t ht => h t (by simp [ht])), mem_leftP]
    have hs := h s (by simp)
    simp only [List.map_cons, lle]
    constructor
    · rintro ⟨⟨h1, h2⟩, h3⟩
      refine ⟨h1, fun k hk => ?_⟩
      have h4 := h2 k hk (.inl hs)
      by_cases h5 : K i (s - 1) < K k (s - 1)
      · exact .inl h5
      · have e : K i (s - 1) = K k (s - 1) := by omega
        refine .inr ⟨e, h3 k ((mem_leftP K Nr).2 ⟨hk, fun m hm _ => ?_⟩)⟩
        rw [← e]
        exact h2 m hm (.inl hs)
    · rintro ⟨h1, h2⟩
      refine ⟨⟨h1, fun k hk _ => ?_⟩, fun k hk => ?_⟩
      · rcases h2 k hk with h3 | ⟨h3, _⟩ <;> omega
      · obtain ⟨hk1, hk2⟩ := (mem_leftP K Nr).1 hk
        rcases h2 k hk1 with h3 | ⟨_, h3⟩
        · exact absurd h3 (hk2 i h1 (.inl hs))
        · exact h3
/-- the place of the best of some, the document's way -/
def amongP (xs : List Nat) : Int := match leftsP K Nr xs [1, 2, 3, 4, 5, 6, 7, 8] with | [] => -1 | i :: _ => i

theorem among_win {xs : List Nat} (hs : xs.Pairwise (· < ·)) {at' : Nat} (h : Win K Nr xs at') : amongP K Nr xs = at' := by
  have e3 : ∀ i, i ∈ leftsP K Nr xs [1, 2, 3] ↔ i ∈ xs ∧ ∀ k ∈ xs, lle (tK K i) (tK K k) := fun i => mem_leftsP K Nr [1, 2, 3] xs i (by simp)
  have e4 : ∀ i, i ∈ leftsP K Nr xs [1, 2, 3, 4] ↔ i ∈ leftsP K Nr xs [1, 2, 3] ∧ ∀ k ∈ leftsP K Nr xs [1, 2, 3], Nr i = Nr k → ¬ K k 3 < K i 3 := fun i => by
    show i ∈ leftP K Nr (leftsP K Nr xs [1, 2, 3]) 4 ↔ _
    rw [mem_leftP]
    simp
  have e8 : ∀ i, i ∈ leftsP K Nr xs [1, 2, 3, 4, 5, 6, 7, 8] ↔ i ∈ leftsP K Nr xs [1, 2, 3, 4] ∧ ∀ k ∈ leftsP K Nr xs [1, 2, 3, 4], lle (sK K i) (sK K k) := fun i => by
    have := mem_leftsP K Nr [5, 6, 7, 8] (leftsP K Nr xs [1, 2, 3, 4]) i (by simp)
    rw [← leftsP_append] at this
    exact this
  -- T
  have hT : ∀ k ∈ xs, lle (tK K at') (tK K k) := fun k hk => by
    obtain ⟨g, hg, hn, hle⟩ := group_of K Nr xs k hk
    have h1 := h.all g hg hle
    have h2 := hle k hk hn.symm
    exact lle_trans (b := tK K g) rfl rfl (lle_append_left (b := tK K g) rfl h1) (lle_append_left (b := tK K k) rfl h2)
  have m3 : at' ∈ leftsP K Nr xs [1, 2, 3] := (e3 _).2 ⟨h.mem, hT⟩
  have m4 : at' ∈ leftsP K Nr xs [1, 2, 3, 4] := (e4 _).2 ⟨m3, fun k hk hn => by
    obtain ⟨hk1, hk2⟩ := (e3 k).1 hk
    have et : tK K at' = tK K k := lle_antisymm rfl (hT k hk1) (hk2 _ h.mem)
    have := h.near k hk1 hn.symm
    unfold vK at this
    rw [et, lle_append_same] at this
    simp only [if_true, List.cons_append, List.nil_append, lle] at this
    omega⟩
  -- R of the one that is taken is least
  have hR : ∀ k ∈ leftsP K Nr xs [1, 2, 3, 4], lle (rK K at') (rK K k) := fun k hk => by
    obtain ⟨hk3, hk4⟩ := (e4 k).1 hk
    obtain ⟨hk1, hk2⟩ := (e3 k).1 hk3
    obtain ⟨g, hg, hn, hle⟩ := group_of K Nr xs k hk1
    have hgk := hle k hk1 hn.symm
    have et : tK K g = tK K k := lle_antisymm rfl (lle_append_left (b := tK K k) rfl hgk) (hk2 g hg)
    have g3 : g ∈ leftsP K Nr xs [1, 2, 3] := (e3 g).2 ⟨hg, fun m hm => by rw [et]; exact hk2 m hm⟩
    have h4 := hk4 g g3 hn.symm
    unfold vK at hgk
    rw [et, lle_append_same] at hgk
    simp only [if_true, List.cons_append, List.nil_append, lle] at hgk
    have hr : lle (rK K g) (rK K k) := by
      rcases hgk with hgk | ⟨_, hgk⟩
      · exact absurd hgk h4
      · exact hgk
    have h1 := h.all g hg hle
    have et2 : tK K at' = tK K g := lle_antisymm rfl (hT g hg) (by rw [et]; exact hk2 _ h.mem)
    unfold vK at h1
    rw [et2, lle_append_same] at h1
    simp only [if_neg (show ¬ (false = true) by decide), List.nil_append] at h1
    exact lle_trans (b := rK K g) rfl rfl h1 hr
  have m8 : at' ∈ leftsP K Nr xs [1, 2, 3, 4, 5, 6, 7, 8] := (e8 _).2 ⟨m4, fun k hk => lle_append_left (b := sK K k) rfl (hR k hk)⟩
  have hsub := leftsP_sub K Nr [1, 2, 3, 4, 5, 6, 7, 8] xs
  have hsl := hs.sublist hsub
  unfold amongP
  cases hl : leftsP K Nr xs [1, 2, 3, 4, 5, 6, 7, 8] with
  | nil => rw [hl] at m8; simp at m8
  | cons x r =>
    rw [hl] at m8 hsl
    show (x : Int) = at'
    rcases List.mem_cons.1 m8 with rfl | hin
    · rfl
    · have hlt := (List.pairwise_cons.1 hsl).1 at' hin
      obtain ⟨hx4, hx8⟩ := (e8 x).1 (by rw [hl]; simp)
      have hr := hR x hx4
      have es : sK K at' = sK K x := lle_antisymm rfl (lle_append_left (b := sK K x) rfl hr) (hx8 _ m4)
      unfold rK at hr
      rw [es, lle_append_same] at hr
      simp only [lle] at hr
      omega
theorem among_nil : amongP K Nr [] = -1 := rfl
/-- what the program gives of some places -/
def BestOf (xs : List Nat) (r : Int) : Prop := (xs = [] → r = -1) ∧ (xs ≠ [] → ∃ i, r = (i : Nat) ∧ Win K Nr xs i)
theorem among_best {xs : List Nat} (hs : xs.Pairwise (· < ·)) {r : Int} (h : BestOf K Nr xs r) : amongP K Nr xs = r := by
  by_cases he : xs = []
  · rw [h.1 he, he]; rfl
  · obtain ⟨i, rfl, hw⟩ := h.2 he
    exact among_win K Nr hs hw
end

/-- which of two keys is less, and at which step -/
def agF (x y : Nat → Int) (med : Bool) : Nat → Nat → Int × Int
  | 0, _ => (0, 0)
  | f + 1, i => if i = 3 ∧ med = false then agF x y med f (i + 1) else if cmpI (x i) (y i) ≠ 0 then (cmpI (x i) (y i), (i : Int) + 1) else agF x y med f (i + 1)
def compsF (x : Nat → Int) (med : Bool) : Nat → Nat → List Int
  | 0, _ => []
  | f + 1, i => if i = 3 ∧ med = false then compsF x med f (i + 1) else x i :: compsF x med f (i + 1)
theorem ag_lle (x y : Nat → Int) (med : Bool) (i' k' : Int) : ∀ f i, ((agF x y med f i).1 > 0 ∨ (agF x y med f i).1 = 0 ∧ k' < i') ↔ ¬ lle (compsF x med f i ++ [i']) (compsF y med f i ++ [k'])
  | 0, i => by simp [agF, compsF, lle]; omega
  | f + 1, i => by
    unfold agF compsF
    by_cases h3 : i = 3 ∧ med = false
    · rw [if_pos h3, if_pos h3, if_pos h3]
      exact ag_lle x y med i' k' f (i + 1)
    · rw [if_neg h3, if_neg h3, if_neg h3]
      have ih := ag_lle x y med i' k' f (i + 1)
      simp only [List.cons_append, lle]
      unfold cmpI
      by_cases h1 : x i < y i
      · simp [h1]
      · by_cases h2 : y i < x i
        · have : ¬ x i = y i := by omega
          simp [h1, h2, this]
        · have : x i = y i := by omega
          simp [this] at ih ⊢
          exact ih
theorem comps_vK (K : Nat → Nat → Int) (med : Bool) (i : Nat) : compsF (K i) med 8 0 ++ [(i : Int)] = vK K med i := by
  cases med <;> rfl
theorem ag_bet (K : Nat → Nat → Int) (med : Bool) (i k : Nat) : (if (agF (K i) (K k) med 8 0).1 > 0 ∨ (agF (K i) (K k) med 8 0).1 = 0 ∧ (k : Int) < i then k else i) = bet K med i k := by
  unfold bet
  have := ag_lle (K i) (K k) med i k 8 0
  rw [comps_vK, comps_vK] at this
  by_cases h : lle (vK K med i) (vK K med k)
  · rw [if_neg (fun hh => this.1 hh h), if_pos h]
  · rw [if_pos (this.2 h), if_neg h]
end Go.Proofs.Ythfchjcbkmabpaa
