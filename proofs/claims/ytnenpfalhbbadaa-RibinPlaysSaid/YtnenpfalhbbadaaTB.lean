/- Trees of prefixes: what is told of a prefix behind a put, a delete of another. -/
import Derived.Test.YtnenpfalhbbadaaTA
import Derived.Test.YtnenpfalhbbadaaPI
namespace Go.Proofs.Ytnenpfalhbbadaa
open Go.RowKit

def under (q : Pf) (s : Nat) : Ab → Prop
  | .nil => True
  | .node k _ _ _ _ => coversF q k = true ∧ q.l < k.l ∧ sideF q k = s
def WF : Ab → Prop
  | .nil => True
  | .node q _ _ l r => rightF q = true ∧ q.ok ∧ under q 0 l ∧ under q 1 r ∧ WF l ∧ WF r
theorem getA_node (q : Pf) (h : Bool) (v : Att) (l r : Ab) (p : Pf) : getA (.node q h v l r) p = if samePf q p = true then (if h = true then (v, true) else (att0, false)) else if coversF q p = true then (if sideF q p = 0 then getA l p else getA r p) else (att0, false) := by
  unfold getA
  rw [findA]
  by_cases h1 : samePf q p = true
  · rw [if_pos h1, if_pos h1]
    cases h <;> rfl
  · rw [if_neg h1, if_neg h1]
    by_cases h2 : coversF q p = true
    · rw [if_pos h2, if_pos h2]
      by_cases h3 : sideF q p = 0
      · rw [if_pos h3, if_pos h3]
      · rw [if_neg h3, if_neg h3]
    · rw [if_neg h2, if_neg h2]
theorem getA_nil' (p : Pf) : getA .nil p = (att0, false) := rfl
theorem same_iff {p q : Pf} : samePf p q = true ↔ p = q := ⟨samePf_eq, fun h => by rw [h]; exact samePf_refl q⟩
theorem getA_off {k : Pf} {h : Bool} {v : Att} {l r : Ab} {p : Pf} (hk : rightF k = true) (hn : ¬ coversF k p = true) : getA (.node k h v l r) p = (att0, false) := by
  rw [getA_node, if_neg, if_neg hn]
  intro hs
  rw [same_iff.1 hs] at hk hn
  exact hn (covers_refl hk)
theorem getA_under {q : Pf} {s : Nat} {A : Ab} (hu : under q s A) (hw : WF A) (p : Pf) (hn : ¬ (coversF q p = true ∧ q.l < p.l ∧ sideF q p = s)) : getA A p = (att0, false) := by
  cases A with
  | nil => rfl
  | node k h v l r =>
    refine getA_off hw.1 fun hc => hn ?_
    obtain ⟨u1, u2, u3⟩ := hu
    have hq := right_len (covers_iff.1 u1).1
    refine ⟨covers_trans u1 hc, ?_, by rw [side_below hc u2 hq.1, u3]⟩
    have := (covers_iff.1 hc).2.2.1
    omega
theorem under_trans {q k : Pf} {s t : Nat} {A : Ab} (hu : under k t A) (h1 : coversF q k = true) (h2 : q.l < k.l) (h3 : sideF q k = s) : under q s A := by
  cases A with
  | nil => trivial
  | node m h v l r =>
    obtain ⟨u1, u2, u3⟩ := hu
    have hq := right_len (covers_iff.1 h1).1
    exact ⟨covers_trans h1 u1, by omega, by rw [side_below u1 h2 hq.1, h3]⟩
theorem jA_get {q : Pf} {h : Bool} {v : Att} {l r : Ab} (ul : under q 0 l) (ur : under q 1 r) (wl : WF l) (wr : WF r) (p : Pf) : getA (jA q h v l r) p = getA (.node q h v l r) p := by
  unfold jA
  split
  · rfl
  · rename_i hc
    have hf : h = false := by cases h with | false => rfl | true => exact absurd (.inl rfl) hc
    subst hf
    split
    · rename_i hl
      obtain rfl : r = .nil := by
        cases r with
        | nil => rfl
        | node => exact absurd (.inr ⟨hl, rfl⟩) hc
      rw [getA_node]
      by_cases hs : samePf q p = true
      · rw [if_pos hs, if_neg (by decide)]
        rw [← same_iff.1 hs]
        exact getA_under ul wl q fun hx => by have := hx.2.1; omega
      · rw [if_neg hs]
        by_cases hcv : coversF q p = true
        · rw [if_pos hcv]
          by_cases h0 : sideF q p = 0
          · rw [if_pos h0]
          · rw [if_neg h0, getA_under ul wl p fun hx => h0 hx.2.2]
            rfl
        · rw [if_neg hcv]
          exact getA_under ul wl p fun hx => hcv hx.1
    · rename_i hl
      obtain rfl : l = .nil := by
        cases l with
        | nil => rfl
        | node => exact absurd rfl hl
      rw [getA_node]
      by_cases hs : samePf q p = true
      · rw [if_pos hs, if_neg (by decide)]
        rw [← same_iff.1 hs]
        exact getA_under ur wr q fun hx => by have := hx.2.1; omega
      · rw [if_neg hs]
        by_cases hcv : coversF q p = true
        · rw [if_pos hcv]
          by_cases h0 : sideF q p = 0
          · rw [if_pos h0, getA_under ur wr p fun hx => by have := hx.2.2; omega]
            rfl
          · rw [if_neg h0]
        · rw [if_neg hcv]
          exact getA_under ur wr p fun hx => hcv hx.1
theorem jA_wf {q : Pf} {h : Bool} {v : Att} {l r : Ab} (hw : WF (.node q h v l r)) : WF (jA q h v l r) ∧ ∀ q' s, under q' s (.node q h v l r) → under q' s (jA q h v l r) := by
  obtain ⟨h1, h2, h3, h4, h5, h6⟩ := hw
  unfold jA
  split
  · exact ⟨⟨h1, h2, h3, h4, h5, h6⟩, fun _ _ h => h⟩
  · split
    · exact ⟨h5, fun q' s hu => under_trans h3 hu.1 hu.2.1 hu.2.2⟩
    · exact ⟨h6, fun q' s hu => under_trans h4 hu.1 hu.2.1 hu.2.2⟩
theorem del_wf (q : Pf) : ∀ A : Ab, WF A → WF (delA A q) ∧ ∀ q' s, under q' s A → under q' s (delA A q)
  | .nil, _ => ⟨trivial, fun _ _ _ => trivial⟩
  | .node k h v l r, hw => by
    obtain ⟨h1, h2, h3, h4, h5, h6⟩ := hw
    rw [delA]
    split
    · obtain ⟨a, b⟩ := jA_wf (h := false) (v := att0) (show WF (.node k false att0 l r) from ⟨h1, h2, h3, h4, h5, h6⟩)
      exact ⟨a, fun q' s hu => b q' s hu⟩
    · split
      · obtain ⟨i1, i2⟩ := del_wf q l h5
        obtain ⟨a, b⟩ := jA_wf (h := h) (v := v) (show WF (.node k h v (delA l q) r) from ⟨h1, h2, i2 _ _ h3, h4, i1, h6⟩)
        exact ⟨a, fun q' s hu => b q' s hu⟩
      · obtain ⟨i1, i2⟩ := del_wf q r h6
        obtain ⟨a, b⟩ := jA_wf (h := h) (v := v) (show WF (.node k h v l (delA r q)) from ⟨h1, h2, h3, i2 _ _ h4, h5, i1⟩)
        exact ⟨a, fun q' s hu => b q' s hu⟩
theorem getA_del (q p : Pf) (hne : p ≠ q) : ∀ A : Ab, WF A → getA (delA A q) p = getA A p
  | .nil, _ => rfl
  | .node k h v l r, hw => by
    obtain ⟨h1, h2, h3, h4, h5, h6⟩ := hw
    rw [delA]
    split
    · rename_i hs
      have hk := same_iff.1 hs
      have hkp : ¬ samePf k p = true := fun h => hne (by rw [← same_iff.1 h, hk])
      rw [jA_get h3 h4 h5 h6, getA_node, getA_node, if_neg hkp, if_neg hkp]
    · split
      · obtain ⟨i1, i2⟩ := del_wf q l h5
        rw [jA_get (i2 _ _ h3) h4 i1 h6, getA_node, getA_node, getA_del q p hne l h5]
      · obtain ⟨i1, i2⟩ := del_wf q r h6
        rw [jA_get h3 (i2 _ _ h4) h5 i1, getA_node, getA_node, getA_del q p hne r h6]
/-! put -/
structure Both (q k c : Pf) : Prop where
  right : rightF c = true
  ok : c.ok
  covQ : coversF c q = true
  covK : coversF c k = true
  ql : c.l < q.l
  kl : c.l < k.l
theorem both_is {q k : Pf} (hq : rightF q = true) (hk : rightF k = true) (oq : q.ok) (ok : k.ok) (h1 : ¬ coversF q k = true) (h2 : ¬ coversF k q = true) : Both q k (commonF q k) := by
  have hc := common_is hq hk oq ok
  refine ⟨hc.right, common_ok q k, hc.covP, hc.covQ, covers_lt hc.covP fun e => h1 ?_, covers_lt hc.covQ fun e => h2 ?_⟩
  · rw [← e]; exact hc.covQ
  · rw [← e]; exact hc.covP
theorem getA_one {q : Pf} (v : Att) {p : Pf} (hne : p ≠ q) : getA (.node q true v .nil .nil) p = (att0, false) := by
  rw [getA_node, if_neg fun h => hne (same_iff.1 h).symm]
  split
  · split <;> rfl
  · rfl
theorem getA_put (q p : Pf) (v : Att) (hq : rightF q = true) (oq : q.ok) (hne : p ≠ q) : ∀ A : Ab, WF A → getA (putA A q v) p = getA A p
  | .nil, _ => getA_one v hne
  | .node k h a l r, hw => by
    obtain ⟨h1, h2, h3, h4, h5, h6⟩ := hw
    rw [putA]
    split
    · rename_i hs
      have hk := same_iff.1 hs
      subst hk
      have hkp : ¬ samePf k p = true := fun h => hne (same_iff.1 h).symm
      rw [getA_node, getA_node, if_neg hkp, if_neg hkp]
    · rename_i hs
      split
      · split
        · rw [getA_node, getA_node, getA_put q p v hq oq hne l h5]
        · rw [getA_node, getA_node, getA_put q p v hq oq hne r h6]
      · rename_i hkq
        split
        · rename_i hqk
          have hl : q.l < k.l := covers_lt hqk fun e => hs (same_iff.2 e.symm)
          have hq0 := (right_len hq).1
          have hnone : ¬ (coversF q p = true ∧ sideF q p = sideF q k) → getA (.node k h a l r) p = (att0, false) := fun hx => getA_off h1 fun hc => hx ⟨covers_trans hqk hc, side_below hc hl hq0⟩
          have hqp : ¬ samePf q p = true := fun h => hne (same_iff.1 h).symm
          split
          · rename_i h0
            rw [getA_node, if_neg hqp]
            by_cases hc : coversF q p = true
            · rw [if_pos hc]
              by_cases hsd : sideF q p = 0
              · rw [if_pos hsd]
              · rw [if_neg hsd, hnone fun hx => hsd (by rw [hx.2, h0])]
                rfl
            · rw [if_neg hc, hnone fun hx => hc hx.1]
          · rename_i h0
            rw [getA_node, if_neg hqp]
            by_cases hc : coversF q p = true
            · rw [if_pos hc]
              by_cases hsd : sideF q p = 0
              · rw [if_pos hsd, hnone fun hx => h0 (by rw [← hx.2, hsd])]
                rfl
              · rw [if_neg hsd]
            · rw [if_neg hc, hnone fun hx => hc hx.1]
        · rename_i hqk
          have hB := both_is hq h1 oq h2 hqk hkq
          generalize commonF q k = c at hB
          have hc0 := (right_len hB.right).1
          have hnone : ¬ (coversF c p = true ∧ ¬ samePf c p = true ∧ sideF c p = sideF c k) → getA (.node k h a l r) p = (att0, false) := fun hx => getA_off h1 fun hc => hx ⟨covers_trans hB.covK hc, fun e => by
            have h9 := same_iff.1 e
            have := (covers_iff.1 hc).2.2.1
            have := hB.kl
            rw [h9] at this
            omega, side_below hc hB.kl hc0⟩
          rw [getA_node]
          by_cases hs2 : samePf c p = true
          · rw [if_pos hs2, if_neg (by decide), hnone fun hx => hx.2.1 hs2]
          · rw [if_neg hs2]
            by_cases hcv : coversF c p = true
            · rw [if_pos hcv]
              by_cases hk0 : sideF c k = 0
              · simp only [if_pos hk0]
                by_cases hp0 : sideF c p = 0
                · rw [if_pos hp0]
                · rw [if_neg hp0, hnone fun hx => hp0 (by rw [hx.2.2, hk0])]
                  split
                  · rfl
                  · exact getA_one v hne
              · simp only [if_neg hk0]
                by_cases hp0 : sideF c p = 0
                · rw [if_pos hp0, hnone fun hx => hk0 (by rw [← hx.2.2, hp0])]
                  split
                  · exact getA_one v hne
                  · rfl
                · rw [if_neg hp0]
            · rw [if_neg hcv, hnone fun hx => hcv hx.1]
theorem put_wf (q : Pf) (v : Att) (hq : rightF q = true) (oq : q.ok) : ∀ A : Ab, WF A → WF (putA A q v) ∧ ∀ q' s, under q' s A → coversF q' q = true → q'.l < q.l → sideF q' q = s → under q' s (putA A q v)
  | .nil, _ => ⟨⟨hq, oq, trivial, trivial, trivial, trivial⟩, fun q' s _ h1 h2 h3 => ⟨h1, h2, h3⟩⟩
  | .node k h a l r, hw => by
    obtain ⟨h1, h2, h3, h4, h5, h6⟩ := hw
    rw [putA]
    split
    · rename_i hs
      have hk := same_iff.1 hs
      subst hk
      exact ⟨⟨hq, oq, h3, h4, h5, h6⟩, fun q' s hu _ _ _ => hu⟩
    · rename_i hs
      split
      · rename_i hkq
        have hlt : k.l < q.l := covers_lt hkq fun e => hs (same_iff.2 e)
        split
        · rename_i h0
          obtain ⟨i1, i2⟩ := put_wf q v hq oq l h5
          exact ⟨⟨h1, h2, i2 _ _ h3 hkq hlt h0, h4, i1, h6⟩, fun q' s hu _ _ _ => hu⟩
        · rename_i h0
          obtain ⟨i1, i2⟩ := put_wf q v hq oq r h6
          have h01 : sideF k q = 1 := by rcases side_lt k q with h | h; exact absurd h h0; exact h
          exact ⟨⟨h1, h2, h3, i2 _ _ h4 hkq hlt h01, h5, i1⟩, fun q' s hu _ _ _ => hu⟩
      · rename_i hkq
        split
        · rename_i hqk
          have hlt : q.l < k.l := covers_lt hqk fun e => hs (same_iff.2 e.symm)
          split
          · rename_i h0
            exact ⟨⟨hq, oq, ⟨hqk, hlt, h0⟩, trivial, ⟨h1, h2, h3, h4, h5, h6⟩, trivial⟩, fun q' s hu c1 c2 c3 => ⟨c1, c2, c3⟩⟩
          · rename_i h0
            have h01 : sideF q k = 1 := by rcases side_lt q k with h | h; exact absurd h h0; exact h
            exact ⟨⟨hq, oq, trivial, ⟨hqk, hlt, h01⟩, trivial, ⟨h1, h2, h3, h4, h5, h6⟩⟩, fun q' s hu c1 c2 c3 => ⟨c1, c2, c3⟩⟩
        · rename_i hqk
          have hB := both_is hq h1 oq h2 hqk hkq
          have hM := common_is hq h1 oq h2
          have hun : ∀ q' s, under q' s (.node k h a l r) → coversF q' q = true → q'.l < q.l → sideF q' q = s → coversF q' (commonF q k) = true ∧ q'.l < (commonF q k).l ∧ sideF q' (commonF q k) = s := by
            intro q' s hu c1 c2 c3
            obtain ⟨u1, u2, u3⟩ := hu
            obtain ⟨a1, a2, a3, a4⟩ := covers_iff.1 c1
            obtain ⟨b1, b2, b3, b4⟩ := covers_iff.1 u1
            have hr := right_len a1
            have hrq := right_len hq
            have hs2 : agr q.a k.a (q'.l.toNat + 1) := (agr_succ (by omega)).2 ⟨a4.symm.trans b4, by
              have e1 := side_eq q hr.1 (by omega)
              have e2 := side_eq k hr.1 (by omega)
              rw [← e1, ← e2, c3, u3]⟩
            have hm := hM.max (q'.l.toNat + 1) (by omega) (by omega) hs2
            obtain ⟨d1, d2, d3, d4⟩ := covers_iff.1 hB.covQ
            refine ⟨covers_iff.2 ⟨a1, d1, by omega, ?_⟩, by omega, ?_⟩
            · exact a4.trans (agr_mono d4 (by omega) (by have := right_len d1; omega)).symm
            · rw [← side_below hB.covQ (by omega) hr.1, c3]
          generalize commonF q k = c at hB hun
          have hwk : WF (.node k h a l r) := ⟨h1, h2, h3, h4, h5, h6⟩
          have hwq : WF (.node q true v .nil .nil) := ⟨hq, oq, trivial, trivial, trivial, trivial⟩
          refine ⟨⟨hB.right, hB.ok, ?_, ?_, ?_, ?_⟩, hun⟩
          · split
            · rename_i h0; exact ⟨hB.covK, hB.kl, h0⟩
            · split
              · rename_i h0; exact ⟨hB.covQ, hB.ql, h0⟩
              · trivial
          · split
            · split
              · trivial
              · rename_i h0
                exact ⟨hB.covQ, hB.ql, by rcases side_lt c q with h | h; exact absurd h h0; exact h⟩
            · rename_i h0
              exact ⟨hB.covK, hB.kl, by rcases side_lt c k with h | h; exact absurd h h0; exact h⟩
          · split
            · exact hwk
            · split
              · exact hwq
              · trivial
          · split
            · split
              · trivial
              · exact hwq
            · exact hwk
theorem wf_root {A : Ab} (h : WF A) : match A with | .nil => True | .node q _ _ _ _ => coversF ⟨0, 0⟩ q = true := by
  cases A with
  | nil => trivial
  | node q hh v l r => exact zero_covers h.1 h.2.1
end Go.Proofs.Ytnenpfalhbbadaa
