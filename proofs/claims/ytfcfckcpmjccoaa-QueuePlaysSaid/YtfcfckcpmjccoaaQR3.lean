/- What the document's queue does, further: Put. -/
import Derived.Test.YtfcfckcpmjccoaaQR2
import Derived.BigQuiet
namespace Go.Proofs.Ytfcfckcpmjccoaa
open Go.RowKit

set_option maxHeartbeats 2000000 in
theorem rput_any (base b : Nat) (v : Value) (xs : List Int) (most : Nat) (skip : Bool) (a : Option Addr) (c : Nat) (bs : List Int) (w : World) (h : QIs w 44 base b v xs most skip) (hS : Src w a c bs) (hbs : ∀ x ∈ bs, 0 ≤ x ∧ x ≤ 255) :
    Calls Try.prog 16 #[.pointer (some ⟨b, 0, none⟩), .slice a bs.length c] w fun e w' => e = .returned (.int .i64 (putN xs most bs)) ∧ (∃ v', QIs w' 44 base b v' (putX xs most skip bs) most (putS xs most skip bs)) ∧ Frame1 b w w' := by
  have hl := h.len
  have hm := h.max
  have H := hidp h
  obtain ⟨n, hn⟩ : ∃ n, n = putN xs most bs := ⟨_, rfl⟩
  have hX : Hid ((skip = true ∧ 0 < n → putX xs most skip bs = passX (xs ++ bs.take n) ∧ putS xs most skip bs = passS (xs ++ bs.take n) true) ∧ (¬ (skip = true ∧ 0 < n) → putX xs most skip bs = xs ++ bs.take n ∧ putS xs most skip bs = skip)) := by
    show _ ∧ _
    unfold putX putS
    rw [← hn]
    exact ⟨fun hp => ⟨if_pos hp, by rw [if_pos hp, hp.1]⟩, fun hp => ⟨if_neg hp, if_neg hp⟩⟩
  rw [← hn]
  generalize putX xs most skip bs = X' at *
  generalize putS xs most skip bs = S' at *
  obtain ⟨q, qc, rfl⟩ := h.own.slice
  unfold putN at hn
  obtain ⟨nb, hnb⟩ : ∃ nb, nb = bs.length := ⟨_, rfl⟩
  rw [← hnb] at hn ⊢
  obtain ⟨i0, hi0, hz0, hz1, hz2⟩ := info_parts Try.info5
  have hcb : n ≤ c := by have := hS.1; omega
  have hnb1 : n ≤ nb := by omega
  have hln : (bs.take n).length = n := by simp; omega
  have srcX : ∀ w2, Below w.heap.size w w2 → 0 < xs.length → ∃ ad, q = some ad ∧ ∀ j u, (xs.map (Value.int .u8))[j]? = some u → w2.cell? (ad.add j) = some u := by
    intro w2 hB hp'
    obtain ⟨ad, h1, h2⟩ := h.own.source q qc rfl xs.length (by simp; omega)
    refine ⟨ad, h1, fun j u hu => below_cell hB (Nat.le_refl _) _ _ (h2 j u ?_)⟩
    rw [← hu, List.take_of_length_le (by simp)]
  have srcY : ∀ w2, Below w.heap.size w w2 → 0 < n → ∃ ad, a = some ad ∧ ∀ j u, ((bs.take n).map (Value.int .u8))[j]? = some u → w2.cell? (ad.add j) = some u := by
    intro w2 hB hp
    obtain ⟨ad, h1, h2⟩ := hS.2 (by omega)
    refine ⟨ad, h1, fun j u hu => below_cell hB (Nat.le_refl _) _ _ (h2 j u ?_)⟩
    rw [List.map_take, List.getElem?_take] at hu
    split at hu
    · exact hu
    · cases hu
  have SX := hidp srcX
  have SY := hidp srcY
  have hcase2 : ((nb : Int) < (most : Int) - (xs.length : Int) ∧ n = nb) ∨ (Hid ((most : Int) - (xs.length : Int) = (n : Int)) ∧ ¬ (nb : Int) < (n : Int)) := by
    rcases (by omega : ((nb : Int) < (most : Int) - (xs.length : Int) ∧ n = nb) ∨ (((most : Int) - (xs.length : Int) = (n : Int)) ∧ ¬ (nb : Int) < (n : Int))) with h | h
    · exact .inl h
    · exact .inr h
  have hnM : n ≤ 65536 := by omega
  have hsum : xs.length + n ≤ most := by omega
  have hcn : (n : Int) ≤ (c : Int) := by omega
  have HL := hidp hln
  have HB := hidp hbs
  clear h hS srcX srcY hn hnb hln hbs
  have hsk : (skip = true ∧ 0 < n) ∨ (skip = true ∧ ¬ 0 < n) ∨ skip = false := by cases skip <;> simp <;> omega
  rcases hsk with ⟨rfl, hnp⟩ | ⟨rfl, hnp⟩ | rfl
  all_goals
   rcases hcase2 with ⟨h1, rfl⟩ | ⟨hr, h2⟩
   all_goals
    obtain ⟨c0, c1, -⟩ := H.out.cells (Below.refl _ _)
    go_enter Try.func16, Try.ntmps16
    go_wp2
    go_quiet (fail)
    have hBd : Below w.heap.size w (w.drewN nq) := below_drewN (Below.refl _ _) _
    generalize w.drewN nq = w1 at *
    obtain ⟨d0, -, d2, df, -⟩ := H.out.cells hBd
    clear c0 c1
    try rw [hr.out]
    go_wp2_with (first
      | (at_builtin
         refine wpList_append_src rfl (.tmp 23) (.tmp 27) 27 rfl w.heap.size 5 i0 (.int .u8 0) 1 1 Try.underlying27 hi0 hz0 hz1 hz2 rfl (by omega) (.slice none 0 0) 0 [] rfl (World.ownsRow_nil _ _ _ _) q xs.length qc (xs.map (Value.int .u8)) rfl (by simp) (SX.out _ hBd) (one_u8 _) (by simp only [maxLen]; omega) (by omega) hBd.size ?_
         intro v1 w2 hown1 hg1 hat1
         have hB2 : Below w.heap.size w w2 := hBd.grown hg1 hBd.size (by simp [Value.ownBlock])
         have hs1 := hBd.size
         have K1 := hidp (And.intro hown1 hat1)
         clear hown1 hg1 hat1 d0 d2 df)
      | (at_builtin
         refine wpList_append_src rfl (.tmp 29) (.tmp 32) 27 rfl w.heap.size 5 i0 (.int .u8 0) 1 1 Try.underlying27 hi0 hz0 hz1 hz2 rfl (by omega) v1 (0 + xs.length) ([] ++ xs.map (Value.int .u8)) rfl K1.out.1 a n c ((bs.take n).map (Value.int .u8)) rfl (by rw [List.length_map, HL.out, Nat.mul_one]) (SY.out _ hB2) (one_u8 _) (by simp only [maxLen]; omega) (by omega) hB2.size ?_
         intro v2 w3 hown2 hg2 hat2
         have hB3 : Below w.heap.size w w3 := hB2.grown hg2 hB2.size (fun k hk => by rcases K1.out.2 with e | e <;> rw [e] at hk <;> simp [Value.ownBlock] at hk; omega)
         have hO3 : OwnMid w3 w.heap.size 5 v2 (xs.length + n) ((xs ++ bs.take n).map (Value.int .u8)) := by
           have := OwnMid.of_owns hown2
           rw [List.map_append]
           simpa using this
         obtain ⟨a2, c2, rfl⟩ := hO3.slice
         obtain ⟨d0, -, d2, df, -⟩ := H.out.cells hB3
         have hlen : (xs ++ bs.take n).length = xs.length + n := by rw [List.length_append, HL.out]
         have P := hidp (H.out.put (ys := xs ++ bs.take n) hB3 (by rw [hlen]; exact hO3) (fun x hx => (List.mem_append.1 hx).elim (H.out.rng x) (fun hx => HB.out x (List.mem_of_mem_take hx))) (by rw [hlen]; exact hsum))
         clear hown2 hg2 hat2 hO3 hlen K1)
      | (go_at_call 25
         refine (rpass_any base b _ _ most true _ P.out.1).mono ?_
         rintro e w4 ⟨rfl, hQ4, hF4⟩
         obtain ⟨e1, e2⟩ := hX.out.1 ⟨by first | trivial | rfl, hnp⟩
         rw [← e1, ← e2] at hQ4
         have P4 := hidp (And.intro hQ4 (P.out.2.trans hF4))
         clear hQ4 hF4 e1 e2))
    go_ret
    first
      | exact ⟨rfl, P4.out⟩
      | (obtain ⟨e1, e2⟩ := hX.out.2 (by first | exact fun hp => hnp hp.2 | exact fun hp => by simp at hp)
         rw [e1, e2]
         exact ⟨rfl, ⟨_, P.out.1⟩, P.out.2⟩)
end Go.Proofs.Ytfcfckcpmjccoaa
