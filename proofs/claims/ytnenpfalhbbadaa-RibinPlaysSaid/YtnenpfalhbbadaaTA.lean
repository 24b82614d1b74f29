/- Prefixes: what covers what; what two share. -/
import Derived.Test.YtnenpfalhbbadaaPE
namespace Go.Proofs.Ytnenpfalhbbadaa
open Go.RowKit

/-- the first n bits are the same -/
def agr (a b n : Nat) : Prop := a / 2 ^ (32 - n) = b / 2 ^ (32 - n)
theorem agr_mono {a b n m : Nat} (h : agr a b n) (hm : m ≤ n) (hn : n ≤ 32) : agr a b m := by
  unfold agr at *
  rw [show 32 - m = (32 - n) + (n - m) by omega, Nat.pow_add, ← Nat.div_div_eq_div_mul, ← Nat.div_div_eq_div_mul, h]
theorem agr_succ {a b n : Nat} (hn : n < 32) : agr a b (n + 1) ↔ agr a b n ∧ a / 2 ^ (31 - n) % 2 = b / 2 ^ (31 - n) % 2 := by
  have e : ∀ x : Nat, x / 2 ^ (32 - n) = x / 2 ^ (31 - n) / 2 := fun x => by
    rw [show 32 - n = (31 - n) + 1 by omega, Nat.pow_succ, ← Nat.div_div_eq_div_mul]
  unfold agr
  rw [show 32 - (n + 1) = 31 - n by omega, e a, e b]
  omega
theorem agr_zero {a b : Nat} (ha : a < 4294967296) (hb : b < 4294967296) : agr a b 0 := by
  unfold agr
  rw [Nat.div_eq_of_lt (by simpa using ha), Nat.div_eq_of_lt (by simpa using hb)]
theorem covers_iff {p q : Pf} : coversF p q = true ↔ rightF p = true ∧ rightF q = true ∧ p.l ≤ q.l ∧ agr p.a q.a p.l.toNat := by
  unfold coversF holdsF agr
  simp only [Bool.and_eq_true, decide_eq_true_eq]
  constructor
  · rintro ⟨h1, h2, h3, h4⟩; exact ⟨h3, h1, h2, h4⟩
  · rintro ⟨h3, h1, h2, h4⟩; exact ⟨h1, h2, h3, h4⟩
theorem right_mod {p : Pf} (h : rightF p = true) : p.a % 2 ^ (32 - p.l.toNat) = 0 := by
  unfold rightF at h
  exact (of_decide_eq_true h).2.2
theorem same_of {p q : Pf} (hp : rightF p = true) (hq : rightF q = true) (hl : p.l = q.l) (h : agr p.a q.a p.l.toNat) : p = q := by
  have h1 := right_mod hp
  have h2 := right_mod hq
  rw [← hl] at h2
  unfold agr at h
  have e1 := Nat.div_add_mod p.a (2 ^ (32 - p.l.toNat))
  have e2 := Nat.div_add_mod q.a (2 ^ (32 - p.l.toNat))
  rw [h1, h] at e1
  rw [h2] at e2
  cases p; cases q
  simp only [Pf.mk.injEq]
  simp at hl e1 e2
  exact ⟨by omega, hl⟩
theorem covers_refl {p : Pf} (h : rightF p = true) : coversF p p = true := covers_iff.2 ⟨h, h, Int.le_refl _, rfl⟩
theorem covers_trans {p q r : Pf} (h1 : coversF p q = true) (h2 : coversF q r = true) : coversF p r = true := by
  obtain ⟨a1, a2, a3, a4⟩ := covers_iff.1 h1
  obtain ⟨b1, b2, b3, b4⟩ := covers_iff.1 h2
  have hq := right_len a2
  refine covers_iff.2 ⟨a1, b2, by omega, ?_⟩
  exact a4.trans (agr_mono b4 (by omega) (by omega))
theorem side_eq {p : Pf} (q : Pf) (h1 : 0 ≤ p.l) (h2 : p.l < 32) : sideF p q = q.a / 2 ^ (31 - p.l.toNat) % 2 := by
  unfold sideF bitF
  rw [if_neg (by omega), show (31 - p.l).toNat = 31 - p.l.toNat by omega]
/-- below q at one side: all that a longer one covers -/
theorem side_below {q k p : Pf} (hk : coversF k p = true) (hl : q.l < k.l) (hq : 0 ≤ q.l) : sideF q p = sideF q k := by
  obtain ⟨b1, b2, b3, b4⟩ := covers_iff.1 hk
  have hkl := right_len b1
  rw [side_eq p hq (by omega), side_eq k hq (by omega)]
  have h := agr_mono b4 (show q.l.toNat + 1 ≤ k.l.toNat by omega) (by omega)
  exact ((agr_succ (by omega)).1 h).2.symm
theorem covers_anti {p q : Pf} (h1 : coversF p q = true) (h2 : coversF q p = true) : p = q := by
  obtain ⟨a1, a2, a3, a4⟩ := covers_iff.1 h1
  obtain ⟨b1, b2, b3, b4⟩ := covers_iff.1 h2
  exact same_of a1 a2 (by omega) a4
theorem covers_lt {p q : Pf} (h1 : coversF p q = true) (hne : p ≠ q) : p.l < q.l := by
  obtain ⟨a1, a2, a3, a4⟩ := covers_iff.1 h1
  rcases Int.lt_or_eq_of_le a3 with h | h
  · exact h
  · exact absurd (same_of a1 a2 h a4) hne
theorem zero_covers {q : Pf} (hq : rightF q = true) (ho : q.ok) : coversF ⟨0, 0⟩ q = true :=
  covers_iff.2 ⟨by decide, hq, (right_len hq).1, agr_zero (by decide) ho⟩
/-! what two share -/
theorem cn_le (a b : Nat) : ∀ n, cnF a b n ≤ n
  | 0 => Nat.le_refl _
  | n + 1 => by
    rw [cnF]
    split
    · exact Nat.le_refl _
    · exact Nat.le_succ_of_le (cn_le a b n)
theorem cn_agr {a b : Nat} (ha : a < 4294967296) (hb : b < 4294967296) : ∀ n, n ≤ 32 → agr a b (cnF a b n)
  | 0, _ => agr_zero ha hb
  | n + 1, hn => by
    rw [cnF]
    split
    · rename_i h
      have := (xor_mask a b ha hb ((n + 1 : Nat) : Int) (by omega) (by omega)).1 h
      exact this
    · exact cn_agr ha hb n (by omega)
theorem cn_max {a b : Nat} (ha : a < 4294967296) (hb : b < 4294967296) : ∀ n m, n ≤ 32 → m ≤ n → agr a b m → m ≤ cnF a b n
  | 0, m, _, hm, _ => by rw [cnF]; exact hm
  | n + 1, m, hn, hm, h => by
    rw [cnF]
    split
    · exact hm
    · rename_i hx
      refine cn_max ha hb n m (by omega) ?_ h
      rcases Nat.lt_or_ge n m with h1 | h1
      · obtain rfl : m = n + 1 := by omega
        exact absurd ((xor_mask a b ha hb ((n + 1 : Nat) : Int) (by omega) (by omega)).2 h) hx
      · exact h1
theorem norm_facts (x : Nat) (hx : x < 4294967296) (n : Nat) (hn : n ≤ 32) : rightF (normF x (n : Int)) = true ∧ (normF x (n : Int)).l = (n : Int) ∧ agr (normF x (n : Int)).a x n := by
  have hl : lenF (n : Int) = (n : Int) := by unfold lenF; rw [if_neg (by omega : ¬ ((n : Int) < 0)), if_neg (by omega), ]
  obtain ⟨m1, m2⟩ := mask_shift (n : Int) (by omega) (by omega)
  simp only [Int.toNat_natCast] at m1 m2
  have ha : (normF x (n : Int)).a = x &&& maskN (n : Int) := by unfold normF; rw [hl]
  have hL : (normF x (n : Int)).l = (n : Int) := by unfold normF; rw [hl]
  refine ⟨?_, hL, ?_⟩
  · unfold rightF
    rw [hL, ha]
    refine decide_eq_true ⟨by omega, by omega, ?_⟩
    rw [Int.toNat_natCast, Nat.and_mod_two_pow, m2, Nat.and_zero]
  · unfold agr
    rw [ha, ← Nat.shiftRight_eq_div_pow, ← Nat.shiftRight_eq_div_pow, Nat.shiftRight_and_distrib, m1, Nat.and_two_pow_sub_one_eq_mod, Nat.mod_eq_of_lt]
    rw [Nat.shiftRight_eq_div_pow, Nat.div_lt_iff_lt_mul (Nat.pow_pos (by decide)), ← Nat.pow_add, show n + (32 - n) = 32 by omega]
    exact hx
structure Common (p q c : Pf) : Prop where
  right : rightF c = true
  covP : coversF c p = true
  covQ : coversF c q = true
  max : ∀ m : Nat, (m : Int) ≤ p.l → (m : Int) ≤ q.l → agr p.a q.a m → (m : Int) ≤ c.l
theorem common_is {p q : Pf} (hp : rightF p = true) (hq : rightF q = true) (op : p.ok) (oq : q.ok) : Common p q (commonF p q) := by
  have h1 := right_len hp
  have h2 := right_len hq
  obtain ⟨n, hn⟩ : ∃ n, (if q.l < p.l then q.l else p.l).toNat = n := ⟨_, rfl⟩
  have hn32 : n ≤ 32 := by rw [← hn]; split <;> omega
  have hnp : (n : Int) ≤ p.l := by rw [← hn]; split <;> omega
  have hnq : (n : Int) ≤ q.l := by rw [← hn]; split <;> omega
  have hc : commonF p q = normF p.a (cnF p.a q.a n : Nat) := by unfold commonF; rw [if_pos ⟨hp, hq⟩, hn]
  have hle := cn_le p.a q.a n
  have hag := cn_agr op oq n hn32
  obtain ⟨f1, f2, f3⟩ := norm_facts p.a op (cnF p.a q.a n) (by omega)
  rw [hc]
  refine ⟨f1, covers_iff.2 ⟨f1, hp, by rw [f2]; omega, by rw [f2, Int.toNat_natCast]; exact f3⟩, covers_iff.2 ⟨f1, hq, by rw [f2]; omega, by rw [f2, Int.toNat_natCast]; exact f3.trans hag⟩, fun m m1 m2 hm => ?_⟩
  rw [f2]
  have := cn_max op oq n m hn32 (by rw [← hn]; split <;> omega) hm
  omega
end Go.Proofs.Ytnenpfalhbbadaa
