/- The document's lists of routes, and the tree's. -/
import Derived.Test.YtnenpfalhbbadaaTE
namespace Go.Proofs.Ytnenpfalhbbadaa
open Go.RowKit

def getL (E : List En) (p : Pf) : Att × Bool := match E with
  | [] => (att0, false)
  | e :: r => if e.p = p then (e.att, true) else getL r p
def dropL (E : List En) (p : Pf) : List En := E.filter fun e => decide (e.p ≠ p)
/-- with one more, at its place -/
def putR (x : En) : Bool → List En → List En
  | done, [] => if done = true then [] else [x]
  | done, e :: r => if done = false ∧ ¬ ltP e.p x.p then x :: ((if e.p ≠ x.p then [e] else []) ++ putR x true r) else (if e.p ≠ x.p then [e] else []) ++ putR x done r
theorem getL_mem {E : List En} (hs : E.Pairwise ltE) (p : Pf) : getL E p = (att0, false) ∧ (∀ e ∈ E, e.p ≠ p) ∨ ∃ e ∈ E, e.p = p ∧ getL E p = (e.att, true) := by
  induction E with
  | nil => exact .inl ⟨rfl, fun e he => by cases he⟩
  | cons x r ih =>
    rw [List.pairwise_cons] at hs
    by_cases hx : x.p = p
    · exact .inr ⟨x, List.mem_cons_self, hx, by rw [getL, if_pos hx]⟩
    · rcases ih hs.2 with ⟨h1, h2⟩ | ⟨e, h1, h2, h3⟩
      · refine .inl ⟨by rw [getL, if_neg hx, h1], fun e he => ?_⟩
        rcases List.mem_cons.1 he with rfl | he
        · exact hx
        · exact h2 e he
      · exact .inr ⟨e, List.mem_cons_of_mem _ h1, h2, by rw [getL, if_neg hx, h3]⟩
theorem getL_ent {A : Ab} (h : WF A) (p : Pf) : getL (entA A) p = getA A p := by
  rcases getL_mem (entA_sorted h) p with ⟨h1, h2⟩ | ⟨e, h1, h2, h3⟩
  · obtain ⟨a, ok, hg⟩ : ∃ a ok, getA A p = (a, ok) := ⟨_, _, rfl⟩
    rw [h1, hg]
    cases ok with
    | true => exact absurd rfl (h2 ⟨p, 0, a⟩ ((mem_entA h _).2 ⟨rfl, hg⟩))
    | false => rw [getA_no hg]
  · have := ((mem_entA h e).1 h1).2
    rw [h2] at this
    rw [h3, this]
theorem drop_sorted {E : List En} (hs : E.Pairwise ltE) (p : Pf) : (dropL E p).Pairwise ltE := hs.sublist List.filter_sublist
theorem mem_drop {E : List En} {p : Pf} {e : En} : e ∈ dropL E p ↔ e ∈ E ∧ e.p ≠ p := by unfold dropL; simp
theorem putR_true (x : En) : ∀ E : List En, putR x true E = dropL E x.p
  | [] => rfl
  | e :: r => by
    rw [putR, if_neg (by simp), putR_true x r]
    unfold dropL
    by_cases h : e.p = x.p <;> simp [h]
theorem mem_putR (x : En) : ∀ (E : List En) (e : En), e ∈ putR x false E ↔ e = x ∨ (e ∈ E ∧ e.p ≠ x.p)
  | [], e => by simp [putR]
  | y :: r, e => by
    rw [putR]
    split
    · rw [putR_true]
      by_cases h : y.p = x.p
      · simp only [h, ne_eq, not_true, if_false, List.nil_append, List.mem_cons, mem_drop]
        constructor
        · rintro (h1 | ⟨h1, h2⟩)
          · exact .inl h1
          · exact .inr ⟨.inr h1, h2⟩
        · rintro (h1 | ⟨h1 | h1, h2⟩)
          · exact .inl h1
          · subst h1; exact absurd h h2
          · exact .inr ⟨h1, h2⟩
      · simp only [ne_eq, h, not_false_iff, if_true, List.mem_cons, List.mem_append, List.mem_nil_iff, or_false, mem_drop]
        constructor
        · rintro (h1 | h1 | ⟨h1, h2⟩)
          · exact .inl h1
          · subst h1; exact .inr ⟨.inl rfl, h⟩
          · exact .inr ⟨.inr h1, h2⟩
        · rintro (h1 | ⟨h1 | h1, h2⟩)
          · exact .inl h1
          · exact .inr (.inl h1)
          · exact .inr (.inr ⟨h1, h2⟩)
    · have ih := mem_putR x r e
      by_cases h : y.p = x.p
      · simp only [h, ne_eq, not_true, if_false, List.nil_append, ih, List.mem_cons]
        constructor
        · rintro (h1 | ⟨h1, h2⟩)
          · exact .inl h1
          · exact .inr ⟨.inr h1, h2⟩
        · rintro (h1 | ⟨h1 | h1, h2⟩)
          · exact .inl h1
          · subst h1; exact absurd h h2
          · exact .inr ⟨h1, h2⟩
      · simp only [ne_eq, h, not_false_iff, if_true, List.mem_cons, List.mem_append, List.mem_nil_iff, or_false, ih]
        constructor
        · rintro (h1 | h1 | ⟨h1, h2⟩)
          · subst h1; exact .inr ⟨.inl rfl, h⟩
          · exact .inl h1
          · exact .inr ⟨.inr h1, h2⟩
        · rintro (h1 | ⟨h1 | h1, h2⟩)
          · exact .inr (.inl h1)
          · exact .inl h1
          · exact .inr (.inr ⟨h1, h2⟩)
theorem putR_sorted (x : En) : ∀ (E : List En), E.Pairwise ltE → (putR x false E).Pairwise ltE
  | [], _ => by simp [putR]
  | y :: r, hs => by
    have hs0 := hs
    rw [List.pairwise_cons] at hs
    rw [putR]
    split
    · rename_i hc
      have hnl : ¬ ltP y.p x.p := hc.2
      have hxr : ∀ e ∈ r, e.p ≠ x.p → ltE x e := fun e he hne => by
        have h1 := hs.1 e he
        rcases ltP_tri x.p e.p with h | h | h
        · exact h
        · exact absurd h.symm hne
        · exact absurd (ltP_trans h1 h) hnl
      rw [putR_true]
      by_cases h : y.p = x.p
      · simp only [h, ne_eq, not_true, if_false, List.nil_append]
        rw [List.pairwise_cons]
        exact ⟨fun e he => hxr e (mem_drop.1 he).1 (mem_drop.1 he).2, drop_sorted hs.2 _⟩
      · simp only [ne_eq, h, not_false_iff, if_true, List.cons_append, List.nil_append]
        have hxy : ltE x y := by
          rcases ltP_tri x.p y.p with h' | h' | h'
          · exact h'
          · exact absurd h'.symm h
          · exact absurd h' hnl
        rw [List.pairwise_cons, List.pairwise_cons]
        refine ⟨fun e he => ?_, fun e he => hs.1 e (mem_drop.1 he).1, drop_sorted hs.2 _⟩
        rcases List.mem_cons.1 he with rfl | he
        · exact hxy
        · exact hxr e (mem_drop.1 he).1 (mem_drop.1 he).2
    · rename_i hc
      have hyx : ltP y.p x.p := by
        rcases Classical.em (ltP y.p x.p) with h | h
        · exact h
        · exact absurd ⟨rfl, h⟩ hc
      have hne : y.p ≠ x.p := fun h => by rw [h] at hyx; exact ltP_irr _ hyx
      simp only [ne_eq, hne, not_false_iff, if_true, List.cons_append, List.nil_append]
      rw [List.pairwise_cons]
      refine ⟨fun e he => ?_, putR_sorted x r hs.2⟩
      rcases (mem_putR x r e).1 he with rfl | ⟨he, -⟩
      · exact hyx
      · exact hs.1 e he
theorem ent_put {A : Ab} (h : WF A) (p : Pf) (v : Att) (hp : rightF p = true) (op : p.ok) : entA (putA A p v) = putR ⟨p, 0, v⟩ false (entA A) := by
  have hw := (put_wf p v hp op A h).1
  refine ens_ext (entA_sorted hw) (putR_sorted _ _ (entA_sorted h)) fun e => ?_
  rw [mem_entA hw, mem_putR, mem_entA h]
  by_cases he : e.p = p
  · rw [he, getA_put_same p v hp op A h]
    constructor
    · rintro ⟨h1, h2⟩
      left
      cases e
      simp at h1 h2 he
      rw [h1, h2, he]
    · rintro (rfl | ⟨-, h2⟩)
      · exact ⟨rfl, rfl⟩
      · exact absurd rfl h2
  · rw [getA_put p e.p v hp op he A h]
    constructor
    · exact fun hx => .inr ⟨hx, he⟩
    · rintro (rfl | ⟨hx, -⟩)
      · exact absurd rfl he
      · exact hx
theorem ent_del {A : Ab} (h : WF A) (p : Pf) : entA (delA A p) = dropL (entA A) p := by
  have hw := (del_wf p A h).1
  refine ens_ext (entA_sorted hw) (drop_sorted (entA_sorted h) _) fun e => ?_
  rw [mem_entA hw, mem_drop, mem_entA h]
  by_cases he : e.p = p
  · rw [he, getA_del_same p A h]
    constructor
    · rintro ⟨-, h2⟩; exact absurd (congrArg Prod.snd h2) (by simp)
    · rintro ⟨-, h2⟩; exact absurd rfl h2
  · rw [getA_del p e.p he A h]
    exact ⟨fun hx => ⟨hx, he⟩, fun hx => hx.1⟩
theorem ent_same {A : Ab} (h : WF A) (p : Pf) (hn : (getA A p).2 = false) : dropL (entA A) p = entA A := by
  unfold dropL
  rw [List.filter_eq_self]
  intro e he
  simp only [ne_eq, decide_not, Bool.not_eq_true', decide_eq_false_iff_not]
  intro hep
  have := ((mem_entA h e).1 he).2
  rw [hep] at this
  rw [this] at hn
  cases hn
theorem putR_len (x : En) : ∀ E : List En, (putR x false E).length = (dropL E x.p).length + 1
  | [] => rfl
  | e :: r => by
    rw [putR]
    split
    · rw [putR_true]
      unfold dropL
      by_cases h : e.p = x.p <;> simp [h]
    · have ih := putR_len x r
      unfold dropL at ih ⊢
      by_cases h : e.p = x.p <;> simp [h, ih]
theorem drop_len {E : List En} (hs : E.Pairwise ltE) (p : Pf) : (dropL E p).length = if (getL E p).2 = true then E.length - 1 else E.length := by
  induction E with
  | nil => rfl
  | cons x r ih =>
    rw [List.pairwise_cons] at hs
    rw [getL]
    by_cases hx : x.p = p
    · rw [if_pos hx, if_pos rfl]
      have : dropL (x :: r) p = dropL r p := by unfold dropL; simp [hx]
      rw [this]
      have h2 : dropL r p = r := by
        unfold dropL
        rw [List.filter_eq_self]
        intro e he
        simp only [ne_eq, decide_not, Bool.not_eq_true', decide_eq_false_iff_not]
        intro hep
        have := hs.1 e he
        unfold ltE at this
        rw [hep, ← hx] at this
        exact ltP_irr _ this
      rw [h2]
      simp
    · rw [if_neg hx]
      have : dropL (x :: r) p = x :: dropL r p := by unfold dropL; simp [hx]
      rw [this, List.length_cons, ih hs.2]
      split
      · rename_i hg
        have hr : 0 < r.length := by
          cases r with
          | nil => cases hg
          | cons => simp
        simp only [List.length_cons]
        omega
      · rfl
/-! the document's Update, Changed -/
def delR : List En → List Pf → List En
  | E, [] => E
  | E, p :: r => delR (dropL E p) r
def putRL (v : Att) (lim : Int) : List En → List Pf → List En × Bool
  | E, [] => (E, false)
  | E, p :: r => if rightF p = true then (if (getL E p).2 = false ∧ lim ≤ (E.length : Int) then (E, true) else putRL v lim (putR ⟨p, 0, v⟩ false E) r) else putRL v lim E r
theorem del_ref (l : List Pf) : ∀ (A : Ab) (n : Int), WF A → n = ((entA A).length : Int) → entA (delL A n l).1 = delR (entA A) l ∧ (delL A n l).2 = ((entA (delL A n l).1).length : Int) ∧ WF (delL A n l).1 := by
  induction l with
  | nil => intro A n h hn; exact ⟨rfl, hn, h⟩
  | cons p r ih =>
    intro A n h hn
    rw [delL, delR]
    cases hg : (getA A p).2 with
    | true =>
      rw [if_pos rfl]
      have hw := (del_wf p A h).1
      have hd := drop_len (entA_sorted h) p
      rw [getL_ent h, hg, if_pos rfl, ← ent_del h p] at hd
      have hm : p ∈ keysA A := (mem_keys A h p).2 hg
      have hpos : 0 < (entA A).length := by
        unfold entA
        rw [List.length_map]
        exact List.length_pos_of_mem hm
      rw [← ent_del h p]
      exact ih _ _ hw (by rw [hd, hn]; omega)
    | false =>
      rw [if_neg (by decide), ent_same h p hg]
      exact ih _ _ h hn
theorem put_ref (v : Att) (lim : Int) (l : List Pf) (ho : ∀ q ∈ l, q.ok) : ∀ (A : Ab) (n : Int), WF A → n = ((entA A).length : Int) →
    putRL v lim (entA A) l = (entA (putL v lim A n l).1, (putL v lim A n l).2.2) ∧ (putL v lim A n l).2.1 = ((entA (putL v lim A n l).1).length : Int) ∧ WF (putL v lim A n l).1 := by
  induction l with
  | nil => intro A n h hn; exact ⟨rfl, hn, h⟩
  | cons p r ih =>
    intro A n h hn
    have ih := ih fun x hx => ho x (List.mem_cons_of_mem _ hx)
    rw [putL, putRL]
    by_cases hr : rightF p = true
    · have op := ho p List.mem_cons_self
      have hw := (put_wf p v hr op A h).1
      have hl := putR_len ⟨p, 0, v⟩ (entA A)
      rw [← ent_put h p v hr op, drop_len (entA_sorted h), getL_ent h] at hl
      rw [if_pos hr, if_pos hr, getL_ent h, ← ent_put h p v hr op]
      cases hg : (getA A p).2 with
      | true =>
        simp only [hg, if_true] at hl
        rw [if_pos rfl, if_neg (by simp)]
        have hm : p ∈ keysA A := (mem_keys A h p).2 hg
        have hpos : 0 < (entA A).length := by
          unfold entA
          rw [List.length_map]
          exact List.length_pos_of_mem hm
        exact ih _ _ hw (by rw [hl, hn]; omega)
      | false =>
        simp only [hg, Bool.false_eq_true, if_false] at hl
        by_cases hlim : lim ≤ n
        · rw [if_pos (show false = false ∧ lim ≤ ((entA A).length : Int) from ⟨rfl, by omega⟩), if_neg (show ¬ (false = true) by decide), if_pos hlim]
          exact ⟨rfl, hn, h⟩
        · rw [if_neg (show ¬ (false = false ∧ lim ≤ ((entA A).length : Int)) from fun hx => hlim (by omega)), if_neg (show ¬ (false = true) by decide), if_neg hlim]
          exact ih _ _ hw (by rw [hl, hn]; omega)
    · rw [if_neg hr, if_neg hr]
      exact ih A n h hn
def updR (E : List En) (u : Upd) (lim : Int) : List En × Bool := putRL u.att lim (delR E u.gone) u.news
theorem upd_ref (A : Ab) (n lim : Int) (u : Upd) (h : WF A) (hn : n = ((entA A).length : Int)) (ho : ∀ q ∈ u.news, q.ok) :
    updR (entA A) u lim = (entA (updA A n lim u).1, (updA A n lim u).2.2) ∧ (updA A n lim u).2.1 = ((entA (updA A n lim u).1).length : Int) ∧ WF (updA A n lim u).1 := by
  obtain ⟨d1, d2, d3⟩ := del_ref u.gone A n h hn
  obtain ⟨e1, e2, e3⟩ := put_ref u.att lim u.news ho (delL A n u.gone).1 (delL A n u.gone).2 d3 d2
  unfold updR updA
  rw [← d1]
  exact ⟨e1, e2, e3⟩
/-- all routes of both -/
def allR (old : List En) : List En → List En → List En
  | all, [] => all
  | all, e :: r => allR old (if (getL old e.p).2 = false then putR e false all else all) r
def chgB (old now : List En) (p : Pf) : Bool := (getL old p).2 != (getL now p).2 || !sameA (getL old p).1 (getL now p).1
def chgR (old now : List En) : List Pf := ((allR old old now).filter fun e => chgB old now e.p).map En.p
theorem allR_sorted (old : List En) : ∀ (l all : List En), all.Pairwise ltE → (allR old all l).Pairwise ltE
  | [], all, h => h
  | e :: r, all, h => by
    rw [allR]
    split
    · exact allR_sorted old r _ (putR_sorted e all h)
    · exact allR_sorted old r _ h
theorem allR_mem (old : List En) (p : Pf) : ∀ (l all : List En), (∀ e ∈ old, ∃ x ∈ all, x.p = e.p) → old.Pairwise ltE → ((∃ e ∈ allR old all l, e.p = p) ↔ (∃ e ∈ all, e.p = p) ∨ ∃ e ∈ l, e.p = p)
  | [], all, _, _ => by simp [allR]
  | y :: r, all, hall, hs => by
    rw [allR]
    split
    · have hsub : ∀ e ∈ old, ∃ x ∈ putR y false all, x.p = e.p := fun e he => by
        obtain ⟨x, hx, hxe⟩ := hall e he
        by_cases hxy : x.p = y.p
        · exact ⟨y, (mem_putR _ _ _).2 (.inl rfl), by rw [← hxy, hxe]⟩
        · exact ⟨x, (mem_putR _ _ _).2 (.inr ⟨hx, hxy⟩), hxe⟩
      rw [allR_mem old p r _ hsub hs]
      constructor
      · rintro (⟨e, he, hep⟩ | ⟨e, he, hep⟩)
        · rcases (mem_putR _ _ _).1 he with rfl | ⟨he, -⟩
          · exact .inr ⟨e, List.mem_cons_self, hep⟩
          · exact .inl ⟨e, he, hep⟩
        · exact .inr ⟨e, List.mem_cons_of_mem _ he, hep⟩
      · rintro (⟨e, he, hep⟩ | ⟨e, he, hep⟩)
        · by_cases hxy : e.p = y.p
          · exact .inl ⟨y, (mem_putR _ _ _).2 (.inl rfl), by rw [← hxy, hep]⟩
          · exact .inl ⟨e, (mem_putR _ _ _).2 (.inr ⟨he, hxy⟩), hep⟩
        · rcases List.mem_cons.1 he with rfl | he
          · exact .inl ⟨e, (mem_putR _ _ _).2 (.inl rfl), hep⟩
          · exact .inr ⟨e, he, hep⟩
    · rename_i hg
      rw [allR_mem old p r _ hall hs]
      constructor
      · rintro (h | ⟨e, he, hep⟩)
        · exact .inl h
        · exact .inr ⟨e, List.mem_cons_of_mem _ he, hep⟩
      · rintro (h | ⟨e, he, hep⟩)
        · exact .inl h
        · rcases List.mem_cons.1 he with rfl | he
          · rcases getL_mem hs e.p with ⟨h1, -⟩ | ⟨x, h1, h2, -⟩
            · rw [h1] at hg; exact absurd rfl hg
            · obtain ⟨z, hz, hzx⟩ := hall x h1
              exact .inl ⟨z, hz, by rw [hzx, h2, hep]⟩
          · exact .inr ⟨e, he, hep⟩
theorem chgR_sorted {old : List En} (hs : old.Pairwise ltE) (now : List En) : (chgR old now).Pairwise ltP := by
  unfold chgR
  rw [List.pairwise_map]
  exact (allR_sorted old now old hs).sublist List.filter_sublist
theorem sort_le {l : List Pf} : (sortP l).Pairwise fun x y => ¬ ltP y x := by
  have h := List.pairwise_mergeSort (le := fun x y => !(Go.Proofs.ltOf cmpF) y x) (fun a b c h1 h2 => ?_) (fun a b => ?_) l
  · refine h.imp fun {a b} hab hlt => ?_
    have := (cmp_lt b a).2 hlt
    rw [this] at hab
    cases hab
  · simp only [Bool.not_eq_true'] at h1 h2 ⊢
    rw [cmp_nlt] at *
    omega
  · simp only [Bool.or_eq_true, Bool.not_eq_true']
    rw [cmp_nlt, cmp_nlt]
    omega
theorem diffL_sorted (f : Pf → Bool) (l : List Pf) : (diffL f l).Pairwise ltP := by
  have hs := sort_le (l := l.filter f)
  obtain ⟨d, hd⟩ : ∃ d, sortP (l.filter f) = d := ⟨_, rfl⟩
  unfold diffL
  rw [hd] at hs ⊢
  rw [List.pairwise_iff_getElem] at hs
  have hle : ∀ i j, i ≤ j → j < d.length → ¬ ltP d.toArray[j]! d.toArray[i]! := fun i j hij hj => by
    rcases Nat.lt_or_eq_of_le hij with h | h
    · have := hs i j (by omega) hj h
      simpa [hj, show i < d.length by omega] using this
    · subst h; exact ltP_irr _
  unfold Go.Lib.compactUpTo
  rw [List.pairwise_map]
  refine List.Pairwise.imp_of_mem (fun {i j} hi hj hij => ?_) ((List.pairwise_lt_range (n := d.length)).filter _)
  have hjk := (List.mem_filter.1 hj).2
  have hjl := List.mem_range.1 (List.mem_filter.1 hj).1
  unfold Go.Lib.keeps at hjk
  have hne : d.toArray[j]! ≠ d.toArray[j - 1]! := by
    rcases of_decide_eq_true hjk with h | h
    · omega
    · exact h
  have h1 := hle (j - 1) j (by omega) hjl
  have h2 := hle i (j - 1) (by omega) (by omega)
  rcases ltP_tri d.toArray[j - 1]! d.toArray[j]! with h | h | h
  · rcases ltP_tri d.toArray[i]! d.toArray[j - 1]! with g | g | g
    · exact ltP_trans g h
    · rw [g]; exact h
    · exact absurd g h2
  · exact absurd h.symm hne
  · exact absurd h h1
/-- what the document tells as changed is what the tree's differ tells -/
theorem chg_ref (A A' : Ab) (l : List Pf) (h : WF A) (h' : WF A') (hs : ∀ p, p ∉ l → getA A' p = getA A p) : chgR (entA A) (entA A') = diffL (otherA A A') l := by
  refine pfs_ext (chgR_sorted (entA_sorted h) _) (diffL_sorted _ _) fun p => ?_
  have ht := tells_iff A A' l p (hs p)
  have hb : ∀ q, chgB (entA A) (entA A') q = ((getA A q).2 != (getA A' q).2 || !sameA (getA A q).1 (getA A' q).1) := fun q => by unfold chgB; rw [getL_ent h, getL_ent h']
  unfold chgR
  rw [List.mem_map]
  constructor
  · rintro ⟨e, he, rfl⟩
    have := (List.mem_filter.1 he).2
    rw [hb, ht] at this
    exact of_decide_eq_true this
  · intro hp
    have hbt : chgB (entA A) (entA A') p = true := by rw [hb, ht]; exact decide_eq_true hp
    have hm : ∃ e ∈ allR (entA A) (entA A) (entA A'), e.p = p := by
      rw [allR_mem (entA A) p (entA A') (entA A) (fun e he => ⟨e, he, rfl⟩) (entA_sorted h)]
      have ho := ((diffL_iff _ _ _).1 hp).2
      unfold otherA at ho
      obtain ⟨a, was, h1⟩ : ∃ a was, getA A p = (a, was) := ⟨_, _, rfl⟩
      obtain ⟨b, is, h2⟩ : ∃ b is, getA A' p = (b, is) := ⟨_, _, rfl⟩
      cases was with
      | true => exact .inl ⟨⟨p, 0, a⟩, (mem_entA h _).2 ⟨rfl, h1⟩, rfl⟩
      | false =>
        cases is with
        | true => exact .inr ⟨⟨p, 0, b⟩, (mem_entA h' _).2 ⟨rfl, h2⟩, rfl⟩
        | false => rw [h1, h2] at ho; simp at ho
    obtain ⟨e, he, hep⟩ := hm
    exact ⟨e, List.mem_filter.2 ⟨he, by rw [hep]; exact hbt⟩, hep⟩
end Go.Proofs.Ytnenpfalhbbadaa
