/- The routes as a list: in order; what is told; behind a put, a delete. -/
import Derived.Test.YtnenpfalhbbadaaTC
import Derived.Test.YtnenpfalhbbadaaUB
import Derived.Test.YtnenpfalhbbadaaRW
namespace Go.Proofs.Ytnenpfalhbbadaa
open Go.RowKit

/- From LawTells and LawBounds, word for word (a claim of Plays has no room for these texts). -/
theorem upd_len {W : World} {u : Upd} (h : u.at W) : u.gone.length = u.gn ∧ u.news.length = u.nn := ⟨h.gone.2.1, h.news.2.1⟩
theorem getA_at {wA W : World} {x : Option Addr} {A : Ab} {n lim : Int} (h : InAt wA W x A n lim) (p : Pf) : (getA A p).1.at wA := by
  rcases h with ⟨-, rfl, -, -⟩ | ⟨b, bt, t, -, -, h3, rfl⟩
  · exact att0_at wA
  · rw [← getT_ab]
    exact getT_at h3.tree p
theorem diffL_len (f : Pf → Bool) (l : List Pf) : (diffL f l).length ≤ l.length := by
  unfold diffL Go.Lib.compactUpTo
  rw [List.length_map]
  refine Nat.le_trans (List.length_filter_le _ _) ?_
  rw [List.length_range, sortP_len]
  exact List.length_filter_le _ _
theorem keys_put (q : Pf) (v : Att) : ∀ A : Ab, (keysA (putA A q v)).length ≤ (keysA A).length + 1
  | .nil => by simp [putA, keysA]
  | .node k h a l r => by
    have h1 := keys_put q v l
    have h2 := keys_put q v r
    rw [putA]
    split
    · simp only [keysA, List.length_append]
      cases h <;> simp <;> omega
    · split
      · split
        · simp only [keysA, List.length_append]; omega
        · simp only [keysA, List.length_append]; omega
      · split
        · split
          · simp only [keysA, List.length_append]; simp; omega
          · simp only [keysA, List.length_append]; simp; omega
        · have e : ∀ X Y : Ab, (keysA (.node (commonF q k) false att0 X Y)).length = (keysA X).length + (keysA Y).length := fun X Y => by simp [keysA]
          rw [e]
          split <;> split <;> simp [keysA] <;> omega
theorem keys_j (k : Pf) (h : Bool) (v : Att) (l r : Ab) : (keysA (jA k h v l r)).length ≤ (keysA (.node k h v l r)).length := by
  unfold jA
  split
  · exact Nat.le_refl _
  · split <;> simp only [keysA, List.length_append] <;> omega
theorem keys_del (q : Pf) : ∀ A : Ab, (keysA (delA A q)).length ≤ (keysA A).length
  | .nil => Nat.le_refl _
  | .node k h a l r => by
    have h1 := keys_del q l
    have h2 := keys_del q r
    rw [delA]
    split
    · refine Nat.le_trans (keys_j _ _ _ _ _) ?_
      simp only [keysA, List.length_append]
      simp
    · split
      · refine Nat.le_trans (keys_j _ _ _ _ _) ?_
        simp only [keysA, List.length_append]; omega
      · refine Nat.le_trans (keys_j _ _ _ _ _) ?_
        simp only [keysA, List.length_append]; omega
theorem keys_delL : ∀ (l : List Pf) (A : Ab) (n : Int), (keysA (delL A n l).1).length ≤ (keysA A).length
  | [], A, n => Nat.le_refl _
  | q :: r, A, n => by
    rw [delL]
    split
    · exact Nat.le_trans (keys_delL r _ _) (keys_del q A)
    · exact keys_delL r A n
theorem keys_putL (v : Att) (lim : Int) : ∀ (l : List Pf) (A : Ab) (n : Int), (keysA (putL v lim A n l).1).length ≤ (keysA A).length + l.length
  | [], A, n => Nat.le_refl _
  | q :: r, A, n => by
    have h := keys_put q v A
    rw [putL]
    split
    · split
      · have := keys_putL v lim r (putA A q v) n
        simp only [List.length_cons]; omega
      · split
        · exact Nat.le_add_right _ _
        · have := keys_putL v lim r (putA A q v) (n + 1)
          simp only [List.length_cons]; omega
    · have := keys_putL v lim r A n
      simp only [List.length_cons]; omega
theorem keys_upd (A : Ab) (n lim : Int) (u : Upd) : (keysA (updA A n lim u).1).length ≤ (keysA A).length + u.news.length := by
  unfold updA
  exact Nat.le_trans (keys_putL _ _ _ _ _) (Nat.add_le_add_right (keys_delL _ _ _) _)
theorem root_wf {A : Ab} (h : WF A) : rootIn ⟨0, 0⟩ A := by
  cases A with
  | nil => trivial
  | node q hh v l r => exact zero_covers h.1 h.2.1
theorem ents_ok {wA W : World} {x : Option Addr} {A : Ab} {n lim : Int} (h : InAt wA W x A n lim) : ∀ e ∈ entA A, e.p.ok ∧ e.att.at wA := fun e he => by
  unfold entA at he
  obtain ⟨p, hp, rfl⟩ := List.mem_map.1 he
  exact ⟨in_keys h p hp, getA_at h p⟩
/-- the order of prefixes -/
def ltP (p q : Pf) : Prop := p.a < q.a ∨ p.a = q.a ∧ p.l < q.l
instance (p q : Pf) : Decidable (ltP p q) := by unfold ltP; infer_instance
theorem ltP_trans {p q r : Pf} (h1 : ltP p q) (h2 : ltP q r) : ltP p r := by unfold ltP at *; omega
theorem ltP_irr (p : Pf) : ¬ ltP p p := by unfold ltP; omega
theorem ltP_tri (p q : Pf) : ltP p q ∨ p = q ∨ ltP q p := by
  unfold ltP
  cases p; cases q
  simp only [Pf.mk.injEq]
  omega
theorem under_key {q : Pf} {s : Nat} {A : Ab} (hu : under q s A) (hw : WF A) {p : Pf} (h : (getA A p).2 = true) : coversF q p = true ∧ q.l < p.l ∧ sideF q p = s := by
  rcases Classical.em (coversF q p = true ∧ q.l < p.l ∧ sideF q p = s) with h1 | h1
  · exact h1
  · rw [getA_under hu hw p h1] at h; cases h
theorem mem_keys : ∀ (A : Ab), WF A → ∀ p, p ∈ keysA A ↔ (getA A p).2 = true
  | .nil, _, p => ⟨fun h => (by cases h), fun h => (by cases h)⟩
  | .node q h v l r, hw, p => by
    obtain ⟨h1, h2, h3, h4, h5, h6⟩ := hw
    have il := mem_keys l h5 p
    have ir := mem_keys r h6 p
    rw [getA_node]
    simp only [keysA, List.mem_append]
    constructor
    · rintro (hp | hp | hp)
      · cases h with
        | true =>
          simp at hp
          subst hp
          rw [if_pos (samePf_refl p)]
          rfl
        | false => cases hp
      · have hk := il.1 hp
        obtain ⟨c1, c2, c3⟩ := under_key h3 h5 hk
        rw [if_neg fun hs => by have := same_iff.1 hs; subst this; omega, if_pos c1, if_pos c3]
        exact hk
      · have hk := ir.1 hp
        obtain ⟨c1, c2, c3⟩ := under_key h4 h6 hk
        rw [if_neg fun hs => by have := same_iff.1 hs; subst this; omega, if_pos c1, if_neg (by omega)]
        exact hk
    · intro hp
      split at hp
      · rename_i hs
        cases h with
        | true => exact .inl (by simp [same_iff.1 hs])
        | false => cases hp
      · split at hp
        · split at hp
          · exact .inr (.inl (il.2 hp))
          · exact .inr (.inr (ir.2 hp))
        · cases hp
theorem covers_ltP {q p : Pf} (h : coversF q p = true) (hl : q.l < p.l) : ltP q p := by
  obtain ⟨c1, c2, c3, c4⟩ := covers_iff.1 h
  have hm := right_mod c1
  unfold agr at c4
  have e1 := Nat.div_add_mod q.a (2 ^ (32 - q.l.toNat))
  have e2 := Nat.div_mul_le_self p.a (2 ^ (32 - q.l.toNat))
  rw [hm, c4, Nat.mul_comm] at e1
  unfold ltP
  omega
theorem side_ltP {q p p' : Pf} (h : coversF q p = true) (h' : coversF q p' = true) (hl : q.l < p.l) (s0 : sideF q p = 0) (s1 : sideF q p' = 1) : ltP p p' := by
  obtain ⟨c1, c2, c3, c4⟩ := covers_iff.1 h
  obtain ⟨d1, d2, d3, d4⟩ := covers_iff.1 h'
  have hq := right_len c1
  have hp := right_len c2
  rw [side_eq p hq.1 (by omega)] at s0
  rw [side_eq p' hq.1 (by omega)] at s1
  have h0 := c4.symm.trans d4
  unfold agr at h0
  have e : ∀ x : Nat, x / 2 ^ (32 - q.l.toNat) = x / 2 ^ (31 - q.l.toNat) / 2 := fun x => by
    rw [show 32 - q.l.toNat = (31 - q.l.toNat) + 1 by omega, Nat.pow_succ, ← Nat.div_div_eq_div_mul]
  rw [e, e] at h0
  have hlt : p.a / 2 ^ (31 - q.l.toNat) < p'.a / 2 ^ (31 - q.l.toNat) := by omega
  left
  rcases Nat.lt_or_ge p.a p'.a with h1 | h1
  · exact h1
  · have := Nat.div_le_div_right (c := 2 ^ (31 - q.l.toNat)) h1
    omega
theorem keys_sorted : ∀ (A : Ab), WF A → (keysA A).Pairwise ltP
  | .nil, _ => List.Pairwise.nil
  | .node q h v l r, hw => by
    obtain ⟨h1, h2, h3, h4, h5, h6⟩ := hw
    have kl := fun p hp => under_key h3 h5 ((mem_keys l h5 p).1 hp)
    have kr := fun p hp => under_key h4 h6 ((mem_keys r h6 p).1 hp)
    simp only [keysA]
    rw [List.pairwise_append, List.pairwise_append]
    refine ⟨by cases h <;> simp, ⟨keys_sorted l h5, keys_sorted r h6, fun p hp p' hp' => side_ltP (kl p hp).1 (kr p' hp').1 (kl p hp).2.1 (kl p hp).2.2 (kr p' hp').2.2⟩, fun x hx p hp => ?_⟩
    obtain rfl : x = q := by cases h <;> simp at hx; exact hx
    rcases List.mem_append.1 hp with hp | hp
    · exact covers_ltP (kl p hp).1 (kl p hp).2.1
    · exact covers_ltP (kr p hp).1 (kr p hp).2.1
theorem getA_put_same (p : Pf) (v : Att) (hp : rightF p = true) (op : p.ok) : ∀ A : Ab, WF A → getA (putA A p v) p = (v, true)
  | .nil, _ => by rw [putA, getA_node, if_pos (samePf_refl p)]; rfl
  | .node k h a l r, hw => by
    obtain ⟨h1, h2, h3, h4, h5, h6⟩ := hw
    rw [putA]
    split
    · rw [getA_node, if_pos (samePf_refl p)]; rfl
    · rename_i hs
      split
      · rename_i hkq
        split
        · rename_i h0
          rw [getA_node, if_neg hs, if_pos hkq, if_pos h0, getA_put_same p v hp op l h5]
        · rename_i h0
          rw [getA_node, if_neg hs, if_pos hkq, if_neg h0, getA_put_same p v hp op r h6]
      · rename_i hkq
        split
        · split <;> (rw [getA_node, if_pos (samePf_refl p)]; rfl)
        · rename_i hqk
          have hB := both_is hp h1 op h2 hqk hkq
          have hM := common_is hp h1 op h2
          have hne : sideF (commonF p k) p ≠ sideF (commonF p k) k := fun he => by
            obtain ⟨b1, b2, b3, b4⟩ := covers_iff.1 hB.covQ
            obtain ⟨d1, d2, d3, d4⟩ := covers_iff.1 hB.covK
            have hc := right_len b1
            have hpl := right_len hp
            have hql := hB.ql
            have hkl := hB.kl
            rw [side_eq p hc.1 (by omega), side_eq k hc.1 (by omega)] at he
            have hag : agr p.a k.a ((commonF p k).l.toNat + 1) := (agr_succ (by omega)).2 ⟨b4.symm.trans d4, he⟩
            have := hM.max _ (by omega) (by omega) hag
            omega
          generalize commonF p k = c at hB hne
          have hql := hB.ql
          rw [getA_node, if_neg fun hs => by have := same_iff.1 hs; subst this; omega, if_pos hB.covQ]
          by_cases h0 : sideF c k = 0
          · have hp1 : ¬ sideF c p = 0 := fun h => hne (by rw [h, h0])
            rw [if_neg hp1]
            simp only [if_pos h0, if_neg hp1]
            rw [getA_node, if_pos (samePf_refl p)]; rfl
          · have hp1 : sideF c p = 0 := by
              rcases side_lt c p with h | h
              · exact h
              · rcases side_lt c k with g | g
                · exact absurd g h0
                · exact absurd (h.trans g.symm) hne
            rw [if_pos hp1]
            simp only [if_neg h0, if_pos hp1]
            rw [getA_node, if_pos (samePf_refl p)]; rfl
theorem getA_del_same (p : Pf) : ∀ A : Ab, WF A → getA (delA A p) p = (att0, false)
  | .nil, _ => rfl
  | .node k h v l r, hw => by
    obtain ⟨h1, h2, h3, h4, h5, h6⟩ := hw
    rw [delA]
    split
    · rename_i hs
      rw [jA_get h3 h4 h5 h6, getA_node, if_pos hs, if_neg (by decide)]
    · rename_i hs
      split
      · rename_i h0
        obtain ⟨i1, i2⟩ := del_wf p l h5
        rw [jA_get (i2 _ _ h3) h4 i1 h6, getA_node, if_neg hs, if_pos h0, getA_del_same p l h5]
        split <;> rfl
      · rename_i h0
        obtain ⟨i1, i2⟩ := del_wf p r h6
        rw [jA_get h3 (i2 _ _ h4) h5 i1, getA_node, if_neg hs, if_neg h0, getA_del_same p r h6]
        split <;> rfl
/-! the list of routes -/
def ltE (x y : En) : Prop := ltP x.p y.p
theorem entA_sorted {A : Ab} (h : WF A) : (entA A).Pairwise ltE := by
  unfold entA
  rw [List.pairwise_map]
  exact keys_sorted A h
theorem mem_entA {A : Ab} (h : WF A) (e : En) : e ∈ entA A ↔ e.fr = 0 ∧ getA A e.p = (e.att, true) := by
  unfold entA
  rw [List.mem_map]
  constructor
  · rintro ⟨p, hp, rfl⟩
    have := (mem_keys A h p).1 hp
    refine ⟨rfl, ?_⟩
    show getA A p = ((getA A p).1, true)
    rw [← this]
  · rintro ⟨h1, h2⟩
    refine ⟨e.p, (mem_keys A h e.p).2 (by rw [h2]), ?_⟩
    rw [h2]
    cases e
    simp at h1
    subst h1
    rfl
/-- two lists in order that hold the same are the same -/
theorem sorted_ext {α : Type} (lt : α → α → Prop) (irr : ∀ x, ¬ lt x x) (tr : ∀ x y z, lt x y → lt y z → lt x z) : ∀ (l m : List α), l.Pairwise lt → m.Pairwise lt → (∀ x, x ∈ l ↔ x ∈ m) → l = m
  | [], [], _, _, _ => rfl
  | [], y :: m, _, _, h => by have := (h y).2 List.mem_cons_self; cases this
  | x :: l, [], _, _, h => by have := (h x).1 List.mem_cons_self; cases this
  | x :: l, y :: m, hl, hm, h => by
    rw [List.pairwise_cons] at hl hm
    have hxy : x = y := by
      rcases List.mem_cons.1 ((h x).1 List.mem_cons_self) with e | e
      · exact e
      · rcases List.mem_cons.1 ((h y).2 List.mem_cons_self) with e' | e'
        · exact e'.symm
        · exact absurd (tr _ _ _ (hl.1 y e') (hm.1 x e)) (irr x)
    subst hxy
    rw [sorted_ext lt irr tr l m hl.2 hm.2 fun z => ?_]
    constructor
    · intro hz
      rcases List.mem_cons.1 ((h z).1 (List.mem_cons_of_mem _ hz)) with e | e
      · subst e; exact absurd (hl.1 z hz) (irr z)
      · exact e
    · intro hz
      rcases List.mem_cons.1 ((h z).2 (List.mem_cons_of_mem _ hz)) with e | e
      · subst e; exact absurd (hm.1 z hz) (irr z)
      · exact e
theorem ens_ext {l m : List En} (hl : l.Pairwise ltE) (hm : m.Pairwise ltE) (h : ∀ e, e ∈ l ↔ e ∈ m) : l = m :=
  sorted_ext ltE (fun x => ltP_irr x.p) (fun _ _ _ h1 h2 => ltP_trans h1 h2) l m hl hm h
theorem pfs_ext {l m : List Pf} (hl : l.Pairwise ltP) (hm : m.Pairwise ltP) (h : ∀ e, e ∈ l ↔ e ∈ m) : l = m :=
  sorted_ext ltP ltP_irr (fun _ _ _ h1 h2 => ltP_trans h1 h2) l m hl hm h
end Go.Proofs.Ytnenpfalhbbadaa
