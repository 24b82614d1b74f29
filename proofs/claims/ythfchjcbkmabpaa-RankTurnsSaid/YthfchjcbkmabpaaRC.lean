/- The place of the one that is taken of some places: the program's best; a condition: the places are of the list. -/
import Derived.Test.YthfchjcbkmabpaaRA2
import Derived.Test.YthfchjcbkmabpaaMapR
import Derived.OwnWalk
namespace Go.Proofs.Ythfchjcbkmabpaa
open Go.RowKit

/-- candidates that lie in a slice -/
structure CandsV (w : World) (a : Option Addr) (n : Nat) (L : List Cnd) : Prop where
  len : L.length = n
  rows : 0 < n → ∃ g o, a = some ⟨g, o, none⟩ ∧ ∀ i (h : i < L.length), w.rangeAt g (o + i * 16) L[i].cells
  ats : ∀ c ∈ L, c.at w
theorem CandsV.below {w w' : World} {a : Option Addr} {n : Nat} {L : List Cnd} (h : CandsV w a n L) (hB : Below w.heap.size w w') : CandsV w' a n L :=
  ⟨h.len, fun hp => by
    obtain ⟨g, o, e, h2⟩ := h.rows hp
    exact ⟨g, o, e, fun i hi j v hv => below_cell hB (Nat.le_refl _) _ _ (h2 i hi j v hv)⟩, fun c hc => (h.ats c hc).below hB⟩
def cnd0 : Cnd := ⟨0, false, 0, 0, 0, 0, none, 0, 0, 0, 0, 0, false, false, 0, 0, none, 0, 0, none, 0, 0, []⟩
def KL (L : List Cnd) (i : Nat) : Nat → Int := (L.getD i cnd0).key
def NL (L : List Cnd) (i : Nat) : Int := (L.getD i cnd0).near

theorem infos49 : ∃ i : TypeInfo, Try.prog.info? 49 = some i ∧ i.zero = some (.agg z8) ∧ i.size = 8 ∧ i.bytes = 64 := by
  exact ⟨_, rfl, rfl, rfl, rfl⟩
/-- the keys of some places lie in block g -/
def KeysAt (w : World) (g n : Nat) (K : Nat → Nat → Int) (xs : List Nat) : Prop :=
  ∃ C : Array Value, w.heap[g]? = some (.cells C 49 (0, 0)) ∧ C.size = n * 8 ∧ ∀ i ∈ xs, ∀ j v, (keyl (K i))[j]? = some v → C[i * 8 + j]? = some v
theorem KeysAt.below {B : Nat} {w w' : World} {g n : Nat} {K : Nat → Nat → Int} {xs : List Nat} (h : KeysAt w g n K xs) (hB : Below B w w') (hg : g < B) : KeysAt w' g n K xs := by
  obtain ⟨C, h1, h2, h3⟩ := h
  exact ⟨C, heap_below hB h1 hg, h2, h3⟩
theorem KeysAt.range {w : World} {g n : Nat} {K : Nat → Nat → Int} {xs : List Nat} (h : KeysAt w g n K xs) {i : Nat} (hi : i ∈ xs) : w.rangeAt g (0 + i * 8) (keyl (K i)) := by
  obtain ⟨C, h1, h2, h3⟩ := h
  intro j v hv
  rw [Nat.zero_add]
  exact cellOf h1 _ (h3 i hi j v hv)
theorem KeysAt.store {w : World} {g n : Nat} {K : Nat → Nat → Int} {xs : List Nat} (h : KeysAt w g n K xs) {i : Nat} (hi : i < n) : KeysAt (w.setCells g (i * 8) (keyl (K i))) g n K (xs ++ [i]) := by
  obtain ⟨C, h1, h2, h3⟩ := h
  refine ⟨_, heap_setCells _ _ _ _ h1, by rw [lay_size]; exact h2, fun k hk j v hv => ?_⟩
  have hj : j < 8 := by
    have := (List.getElem?_eq_some_iff.1 hv).1
    rw [keyl_len] at this
    exact this
  rw [lay_get _ _ _ _ (by rw [keyl_len]; omega), keyl_len]
  by_cases hik : k = i
  · subst hik
    rw [if_pos (by omega), show k * 8 + j - k * 8 = j by omega]
    exact hv
  · rw [if_neg (by omega)]
    rcases List.mem_append.1 hk with hk | hk
    · exact h3 k hk j v hv
    · simp at hk; exact absurd hk hik
theorem KeysAt.there {w : World} {g n : Nat} {K : Nat → Nat → Int} {xs : List Nat} (h : KeysAt w g n K xs) {i : Nat} (hi : i < n) : w.there g (i * 8) 8 := by
  obtain ⟨C, h1, h2, h3⟩ := h
  exact there_of h1 _ _ (by omega)

/-- i is the best of its neighbour's among some -/
def Grp (K : Nat → Nat → Int) (Nr : Nat → Int) (pre : List Nat) (z : Int) (i : Nat) : Prop := i ∈ pre ∧ Nr i = z ∧ ∀ j ∈ pre, Nr j = z → lle (vK K true i) (vK K true j)
/-- what the map holds behind some places -/
def GrpMap (K : Nat → Nat → Int) (Nr : Nat → Int) (pre : List Nat) (f : Int → Option Value) : Prop :=
  (∀ z v, f z = some v → ∃ i : Nat, v = .int .i64 i ∧ Grp K Nr pre z i) ∧ (∀ j ∈ pre, (f (Nr j)).isSome = true)
theorem GrpMap.nil (K : Nat → Nat → Int) (Nr : Nat → Int) : GrpMap K Nr [] (fun _ => none) := ⟨fun _ _ h => (by cases h), fun _ h => absurd h (by simp)⟩
theorem GrpMap.new {K : Nat → Nat → Int} {Nr : Nat → Int} {pre : List Nat} {f : Int → Option Value} (h : GrpMap K Nr pre f) (i : Nat) (hf : f (Nr i) = none) : GrpMap K Nr (pre ++ [i]) (upd f (Nr i) (.int .i64 i)) := by
  refine ⟨fun z v hv => ?_, fun j hj => ?_⟩
  · unfold upd at hv
    split at hv
    · rename_i hz
      cases hv
      refine ⟨i, rfl, by simp, hz.symm, fun j hj hn => ?_⟩
      rcases List.mem_append.1 hj with hj | hj
      · have := h.2 j hj
        rw [hn, hz, hf] at this
        cases this
      · simp at hj; subst hj; exact lle_refl _
    · rename_i hz
      obtain ⟨k, e, h1, h2, h3⟩ := h.1 z v hv
      refine ⟨k, e, by simp [h1], h2, fun j hj hn => ?_⟩
      rcases List.mem_append.1 hj with hj | hj
      · exact h3 j hj hn
      · simp at hj; subst hj; exact absurd hn.symm hz
  · unfold upd
    split
    · rfl
    · rename_i hz
      rcases List.mem_append.1 hj with hj | hj
      · exact h.2 j hj
      · simp at hj; subst hj; exact absurd rfl hz
theorem GrpMap.old {K : Nat → Nat → Int} {Nr : Nat → Int} {pre : List Nat} {f : Int → Option Value} (h : GrpMap K Nr pre f) (i k : Nat) (hf : f (Nr i) = some (.int .i64 k)) : GrpMap K Nr (pre ++ [i]) (upd f (Nr i) (.int .i64 (bet K true k i : Nat))) := by
  obtain ⟨k', e, hg1, hg2, hg3⟩ := h.1 _ _ hf
  obtain rfl : k = k' := by simp at e; omega
  refine ⟨fun z v hv => ?_, fun j hj => ?_⟩
  · unfold upd at hv
    split at hv
    · rename_i hz
      cases hv
      refine ⟨_, rfl, ?_⟩
      unfold bet
      split
      · rename_i hle
        refine ⟨by simp [hg1], by rw [hz]; exact hg2, fun j hj hn => ?_⟩
        rcases List.mem_append.1 hj with hj | hj
        · exact hg3 j hj (by rw [hn, hz])
        · simp at hj; subst hj; exact hle
      · rename_i hle
        have hle' := (lle_total (vK K true k) (vK K true i)).resolve_left hle
        refine ⟨by simp, hz.symm, fun j hj hn => ?_⟩
        rcases List.mem_append.1 hj with hj | hj
        · exact lle_trans (vK_len K _ _ _) (vK_len K _ _ _) hle' (hg3 j hj (by rw [hn, hz]))
        · simp at hj; subst hj; exact lle_refl _
    · rename_i hz
      obtain ⟨m, e, h1, h2, h3⟩ := h.1 z v hv
      refine ⟨m, e, by simp [h1], h2, fun j hj hn => ?_⟩
      rcases List.mem_append.1 hj with hj | hj
      · exact h3 j hj hn
      · simp at hj; subst hj; exact absurd hn.symm hz
  · unfold upd
    split
    · rfl
    · rename_i hz
      rcases List.mem_append.1 hj with hj | hj
      · exact h.2 j hj
      · simp at hj; subst hj; exact absurd rfl hz

/-- what 'out' is while some of the map's keys are still to come -/
def OutIs (K : Nat → Nat → Int) (f : Int → Option Value) (left : Int → Bool) (out : Int) : Prop :=
  (out = -1 ∧ ∀ z, (f z).isSome = true → left z = true) ∨
  ∃ (i : Nat) (z : Int), out = i ∧ f z = some (.int .i64 i) ∧ left z = false ∧ ∀ z' (j : Nat), f z' = some (.int .i64 j) → left z' = false → lle (vK K false i) (vK K false j)
theorem OutIs.start (K : Nat → Nat → Int) (f : Int → Option Value) : OutIs K f (fun k => (f k).isSome) (-1) := .inl ⟨rfl, fun _ h => h⟩
theorem OutIs.first {K : Nat → Nat → Int} {f : Int → Option Value} {left : Int → Bool} (h : ∀ z, (f z).isSome = true → left z = true) (k : Int) (i : Nat) (hf : f k = some (.int .i64 i)) : OutIs K f (fun j => left j && j != k) i := by
  refine .inr ⟨i, k, rfl, hf, by simp, fun z' j hz hl => ?_⟩
  have := h z' (by rw [hz]; rfl)
  simp [this] at hl
  subst hl
  rw [hf] at hz
  cases hz
  exact lle_refl _
theorem OutIs.next {K : Nat → Nat → Int} {f : Int → Option Value} {left : Int → Bool} (o : Nat) (z : Int) (hz : f z = some (.int .i64 o)) (hlz : left z = false) (hle : ∀ z' (j : Nat), f z' = some (.int .i64 j) → left z' = false → lle (vK K false o) (vK K false j))
    (k : Int) (i : Nat) (hf : f k = some (.int .i64 i)) : OutIs K f (fun j => left j && j != k) (bet K false o i : Nat) := by
  unfold bet
  split
  · rename_i h
    refine .inr ⟨o, z, rfl, hz, by simp [hlz], fun z' j hz' hl => ?_⟩
    simp at hl
    by_cases hk : left z' = true
    · have := hl hk
      subst this
      rw [hf] at hz'
      have : i = j := by simp at hz'; omega
      subst this
      exact h
    · exact hle z' j hz' (by simpa using hk)
  · rename_i h
    have h' := (lle_total (vK K false o) (vK K false i)).resolve_left h
    refine .inr ⟨i, k, rfl, hf, by simp, fun z' j hz' hl => ?_⟩
    simp at hl
    by_cases hk : left z' = true
    · have := hl hk
      subst this
      rw [hf] at hz'
      have : i = j := by simp at hz'; omega
      subst this
      exact lle_refl _
    · exact lle_trans (vK_len K _ _ _) (vK_len K _ _ _) h' (hle z' j hz' (by simpa using hk))
theorem OutIs.done {K : Nat → Nat → Int} {Nr : Nat → Int} {xs : List Nat} {f : Int → Option Value} {left : Int → Bool} {out : Int} (h : OutIs K f left out) (hg : GrpMap K Nr xs f) (hl : ∀ z, left z = false) : BestOf K Nr xs out := by
  rcases h with ⟨rfl, h⟩ | ⟨i, z, rfl, hz, _, hle⟩
  · refine ⟨fun _ => rfl, fun hx => ?_⟩
    obtain ⟨x, r, rfl⟩ := List.exists_cons_of_ne_nil hx
    have := h _ (hg.2 x (by simp))
    rw [hl] at this
    cases this
  · obtain ⟨i', e, h1, h2, h3⟩ := hg.1 _ _ hz
    obtain rfl : i = i' := by simp at e; omega
    refine ⟨fun hx => by subst hx; simp at h1, fun _ => ⟨i, rfl, h1, fun j hj hn => h3 j hj (by rw [hn, h2]), fun g hgm hgn => ?_⟩⟩
    have hs := hg.2 g hgm
    obtain ⟨v, hv⟩ := Option.isSome_iff_exists.1 hs
    obtain ⟨g', rfl, p1, p2, p3⟩ := hg.1 _ _ hv
    have e1 : g = g' := vK_inj K (lle_antisymm (vK_len K _ _ _) (hgn g' p1 p2) (p3 g hgm rfl))
    subst e1
    exact hle _ _ hv (hl _)
end Go.Proofs.Ythfchjcbkmabpaa
