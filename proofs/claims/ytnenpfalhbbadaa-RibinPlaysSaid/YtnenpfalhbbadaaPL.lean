/- Values laid into a row; trees as plain data; joined. -/
import Derived.Test.YtnenpfalhbbadaaPG
namespace Go.Proofs.Ytnenpfalhbbadaa
open Go.RowKit

/-- c with vs laid into it from o on -/
def lay (c : Array Value) : Nat → List Value → Array Value
  | _, [] => c
  | o, v :: r => lay (c.setIfInBounds o v) (o + 1) r
theorem lay_size : ∀ (vs : List Value) (c : Array Value) (o : Nat), (lay c o vs).size = c.size
  | [], _, _ => rfl
  | v :: r, c, o => by rw [lay, lay_size r]; simp
theorem lay_get : ∀ (vs : List Value) (c : Array Value) (o i : Nat), o + vs.length ≤ c.size → (lay c o vs)[i]? = if o ≤ i ∧ i < o + vs.length then vs[i - o]? else c[i]?
  | [], _, o, i, _ => by rw [lay, if_neg (by simp)]
  | v :: r, _, o, i, h => by
    simp only [List.length_cons] at h ⊢
    rw [lay, lay_get r _ _ _ (by simp; omega), Array.getElem?_setIfInBounds]
    by_cases h1 : o + 1 ≤ i ∧ i < o + 1 + r.length
    · rw [if_pos h1, if_pos (show o ≤ i ∧ i < o + (r.length + 1) by omega), show i - o = (i - (o + 1)) + 1 by omega, List.getElem?_cons_succ]
    · rw [if_neg h1]
      by_cases h2 : o = i
      · subst h2
        rw [if_pos rfl, if_pos (by omega), if_pos (by omega)]
        simp
      · rw [if_neg h2, if_neg (by omega)]
theorem heap_setCells {e : TypeId} {f : Nat × Nat} {b : Nat} : ∀ (vs : List Value) (w : World) (c : Array Value) (o : Nat), w.heap[b]? = some (.cells c e f) → (w.setCells b o vs).heap[b]? = some (.cells (lay c o vs) e f)
  | [], _, _, _, h => h
  | v :: r, w, _, o, h => heap_setCells r (w.setCell ⟨b, o, none⟩ v) _ (o + 1) (heap_setCell_same h o v)
theorem heap_setCells_far {b k : Nat} (hn : k ≠ b) : ∀ (vs : List Value) (w : World) (o : Nat), (w.setCells b o vs).heap[k]? = w.heap[k]?
  | [], _, _ => rfl
  | v :: r, w, o => (heap_setCells_far hn r (w.setCell ⟨b, o, none⟩ v) (o + 1)).trans (Below.heap_setCell _ _ _ _ hn)
theorem below_setCells {B b : Nat} {w : World} (hb : B ≤ b) : ∀ (vs : List Value) (W : World) (o : Nat), Below B w W → Below B w (W.setCells b o vs)
  | [], _, _, h => h
  | v :: r, W, o, h => below_setCells hb r (W.setCell ⟨b, o, none⟩ v) (o + 1) (h.setCell hb v)
theorem there_of {w : World} {b : Nat} {c : Array Value} {e : TypeId} (h : w.heap[b]? = some (.cells c e (0, 0))) (o n : Nat) (hn : o + n ≤ c.size) : w.there b o n := fun j hj => by
  have hlt : o + j < c.size := by omega
  exact ⟨by simp [World.cell?, h, hlt], frozenOf h _⟩

/-- a tree, wherever it lies -/
inductive Ab where
  | nil
  | node (p : Pf) (has : Bool) (v : Att) (l r : Ab)
def Tr.ab : Tr → Ab
  | .nil => .nil
  | .node _ p h v l r => .node p h v l.ab r.ab
def Ab.isNil : Ab → Bool
  | .nil => true
  | _ => false
def jA (p : Pf) (h : Bool) (v : Att) (l r : Ab) : Ab := if h = true ∨ l.isNil = false ∧ r.isNil = false then .node p h v l r else if l.isNil = false then l else r
/-- where a tree's nodes lie -/
def Tr.blocks : Tr → List Nat
  | .nil => []
  | .node b _ _ _ l r => b :: (l.blocks ++ r.blocks)
theorem Tr.at.of_heap {wA w w' : World} : ∀ {t : Tr}, t.at wA w → (∀ k ∈ t.blocks, w'.heap[k]? = w.heap[k]?) → t.at wA w'
  | .nil, _, _ => trivial
  | .node b _ _ _ l r, h, hk => by
    obtain ⟨hb, hp, hv, hl, hr⟩ := h
    exact ⟨by rw [hk b (by simp [Tr.blocks])]; exact hb, hp, hv, hl.of_heap fun k h => hk k (by simp [Tr.blocks, h]), hr.of_heap fun k h => hk k (by simp [Tr.blocks, h])⟩
theorem Tr.at.lt {wA w : World} : ∀ {t : Tr}, t.at wA w → ∀ k ∈ t.blocks, k < w.heap.size
  | .nil, _, _, h => by simp [Tr.blocks] at h
  | .node b _ _ _ l r, h, k, hk => by
    obtain ⟨hb, hp, hv, hl, hr⟩ := h
    simp [Tr.blocks] at hk
    rcases hk with rfl | hk | hk
    · exact ltOf hb
    · exact hl.lt k hk
    · exact hr.lt k hk
/-- a tree that was made: its nodes are old ones of some, or new -/
def Tr.from (t : Tr) (old : List Nat) (B : Nat) : Prop := ∀ k ∈ t.blocks, k ∈ old ∨ B ≤ k
theorem from_node (B : Nat) (p : Pf) (h : Bool) (v : Att) (l r : Tr) : (Tr.node B p h v l r).from (l.blocks ++ r.blocks) B := fun k hk => by
  rcases List.mem_cons.1 hk with rfl | hk
  · exact .inr (Nat.le_refl _)
  · exact .inl hk
theorem joined_any (wA : World) (p : Pf) (hp : p.ok) (h : Bool) (v : Att) (l r : Tr) (w : World) (hv : v.at wA) (hl : l.at wA w) (hr : r.at wA w) :
    Calls Try.prog 55 #[.agg (nodeC p h v l.ptr r.ptr).toArray] w fun e w' => (∃ t : Tr, e = .returned t.ptr ∧ t.at wA w' ∧ t.ab = jA p h v l.ab r.ab ∧ t.from (l.blocks ++ r.blocks) w.heap.size) ∧ Below w.heap.size w w' := by
  have hB := (Below.refl w.heap.size w).alloc (Nat.le_refl _) (.cells (nodeC p h v l.ptr r.ptr).toArray 93)
  have hk := heap_alloc_new w (.cells (nodeC p h v l.ptr r.ptr).toArray 93)
  have c2 := cellOf hk 2 (v := .bool h) rfl
  have c14 := cellOf hk 14 (v := l.ptr) rfl
  have c15 := cellOf hk 15 (v := r.ptr) rfl
  have HB := hidp hB
  have HK := hidp (show (Tr.node w.heap.size p h v l r).at wA (w.alloc (.cells (nodeC p h v l.ptr r.ptr).toArray 93)) from ⟨hk, hp, hv, hl.below hB, hr.below hB⟩)
  have HL := hidp (hl.below hB)
  have HR := hidp (hr.below hB)
  have hen : ∃ C, C = (nodeC p h v l.ptr r.ptr).toArray := ⟨_, rfl⟩
  obtain ⟨C, hC⟩ := hen
  rw [← hC] at HB HK HL HR c2 c14 c15
  rw [← hC]
  clear hB hk hC hv hl hr
  cases h with
  | true =>
    go_enter Try.func55, Try.ntmps55
    go_wp2
    go_ret
    exact ⟨⟨_, rfl, HK.out, by unfold jA; rw [if_pos (.inl rfl)]; rfl, from_node _ _ _ _ _ _⟩, HB.out⟩
  | false =>
    cases l with
    | nil =>
      have e : (Tr.nil).ptr = .pointer none := rfl
      rw [e] at c14
      clear e
      go_enter Try.func55, Try.ntmps55
      go_wp2
      go_ret
      exact ⟨⟨r, rfl, HR.out, by unfold jA; rw [if_neg (by simp [Tr.ab, Ab.isNil]), if_neg (by simp [Tr.ab, Ab.isNil])], fun k hk => .inl (List.mem_append_right _ hk)⟩, HB.out⟩
    | node lb lp lh lv ll lr =>
      have e : (Tr.node lb lp lh lv ll lr).ptr = .pointer (some ⟨lb, 0, none⟩) := rfl
      rw [e] at c14
      clear e
      cases r with
      | nil =>
        have e : (Tr.nil).ptr = .pointer none := rfl
        rw [e] at c15
        clear e
        go_enter Try.func55, Try.ntmps55
        go_wp2
        go_ret
        exact ⟨⟨.node lb lp lh lv ll lr, rfl, HL.out, by unfold jA; rw [if_neg (by simp [Tr.ab, Ab.isNil]), if_pos (by simp [Tr.ab, Ab.isNil])], fun k hk => .inl (List.mem_append_left _ hk)⟩, HB.out⟩
      | node rb rp rh rv rl rr =>
        have e : (Tr.node rb rp rh rv rl rr).ptr = .pointer (some ⟨rb, 0, none⟩) := rfl
        rw [e] at c15
        clear e
        go_enter Try.func55, Try.ntmps55
        go_wp2
        go_ret
        exact ⟨⟨_, rfl, HK.out, by unfold jA; rw [if_pos (.inr (by simp [Tr.ab, Ab.isNil]))]; rfl, from_node _ _ _ _ _ _⟩, HB.out⟩
end Go.Proofs.Ytnenpfalhbbadaa
