/- RankTurns answers true: in whichever order candidates stand the same one is taken, if no two have the same Peer; of candidates that are not few, or none, only the example is asked. -/
import Derived.Test.YthfchjcbkmabpaaRT
import Derived.Test.YthfchjcbkmabpaaRW
namespace Go.Proofs.Ythfchjcbkmabpaa
open Go.RowKit

theorem turn_from (k : Int) {n : Nat} (h0 : 0 < n) (hn : n ≤ 1000) : ∃ f : Nat, f < n ∧ wrap64 ((IntKind.u64.wrap k).tmod n) = f := by
  have h1 : 0 ≤ IntKind.u64.wrap k := by rw [IntKind.wrap_u64]; omega
  rw [Int.tmod_eq_emod_of_nonneg h1]
  have h2 := Int.emod_nonneg (IntKind.u64.wrap k) (show (n : Int) ≠ 0 by omega)
  have h3 := Int.emod_lt_of_pos (IntKind.u64.wrap k) (show (0 : Int) < n by omega)
  refine ⟨(IntKind.u64.wrap k % n).toNat, by omega, ?_⟩
  simp only [wrap64]
  omega
theorem Two.xs {w wr : World} {L : List Cnd} {σ τ : Nat → Nat} {k l : Nat} {x y : Value} (h : Two w L σ τ k l x y wr) : ∃ a c, x = .slice a k c := by
  obtain ⟨a, c, e⟩ := ownsRow_slice h.bx
  rw [turn_len] at e
  exact ⟨a, c, e⟩
theorem Two.cands {w wr : World} {L : List Cnd} {σ τ : Nat → Nat} {k l n c : Nat} {a : Option Addr} {b : Option Addr} {y : Value} (h : Two w L σ τ k l (.slice a k c) y wr) (hL : CandsV wr b n L) (hσ : ∀ i, i < k → σ i < L.length) : CandsV wr a k (turnL L σ k) := by
  obtain ⟨a', c', e, hc⟩ := h.bx.cands (fun c hc => hL.ats c (turn_mem hσ hc))
  rw [turn_len] at e hc
  cases e
  exact hc
/-- the first have each their own Peer -/
def Apart (L : List Cnd) (j : Nat) : Prop := ∀ p q, p < j → q < p → (L.getD q cnd0).peer ≠ (L.getD p cnd0).peer
theorem Apart.inj {L : List Cnd} {n : Nat} (h : Apart L n) : ∀ i j, i < n → j < n → (L.getD i cnd0).peer = (L.getD j cnd0).peer → i = j := by
  intro i j hi hj e
  rcases Nat.lt_trichotomy i j with h1 | h1 | h1
  · exact absurd e (h j i hj h1)
  · exact h1
  · exact absurd e.symm (h i j hi h1)
set_option maxRecDepth 100000 in
set_option maxHeartbeats 4000000 in
theorem lawTurns_any (L : List Cnd) (a : Option Addr) (n c : Nat) (k : Int) (w : World) (hL : CandsV w a n L) :
    Calls Try.prog 6 #[.slice a n c, .int .i64 k] w fun e w' => e = .returned (.bool true) ∧ Below w.heap.size w w' := by
  have HL := hidp hL
  clear hL
  go_enter Try.func6, Try.ntmps6
  go_upto_region 1 with (fail)
  go_wp2_with fail
  refine (few_any L a n c 30 w HL.out (by decide)).mono ?_
  rintro e w1 ⟨⟨b, rfl, hb⟩, B1⟩
  have HB1 := hidp B1
  clear B1
  cases b with
  | false =>
    clear hb
    go_wp2_with (first
      | (go_at_call 9; refine (awake_any _).mono ?_; rintro e w2 ⟨rfl, B2⟩
         have H2 := hidp (HB1.out.trans (B2.mono HB1.out.size))
         clear B2))
    go_ret
    exact ⟨rfl, H2.out⟩
  | true =>
    obtain ⟨hn, hp⟩ := hb rfl
    by_cases h0 : n = 0
    · subst h0
      clear hb hp
      go_wp2_with (first
        | (go_at_call 9; refine (awake_any _).mono ?_; rintro e w2 ⟨rfl, B2⟩
           have H2 := hidp (HB1.out.trans (B2.mono HB1.out.size))
           clear B2))
      go_ret
      exact ⟨rfl, H2.out⟩
    have l0 : ((n : Int) == 0) = false := by simp; omega
    have HP := hidp (show ∀ c ∈ L, c.pl ≤ 1000000 from fun c hc => Nat.le_trans (hp c hc) (by decide))
    clear hb hp
    obtain ⟨f, hf, hfe⟩ : ∃ f : Nat, f < n ∧ wrap64 ((IntKind.u64.wrap k).tmod n) = f := turn_from k (by omega) (by omega)
    obtain ⟨σ, hσ⟩ : ∃ σ : Nat → Nat, σ = fun i => n - 1 - i := ⟨_, rfl⟩
    obtain ⟨τ, hτ⟩ : ∃ τ : Nat → Nat, τ = fun i => (i + f) % n := ⟨_, rfl⟩
    have HSI := hidp hσ
    have HTA := hidp hτ
    clear hσ hτ
    obtain ⟨i0, hi0, hz0, hz1, hz2⟩ := info_parts Try.infos34
    go_upto_region 5 with (fail)
    go_wp2
    rw [hfe]
    clear hfe
    go_loopw [5, 6, 9] (fun x y i wr => ∃ (j : Nat) (a1 : Option Addr) (c1 : Nat) (a2 : Option Addr) (c2 : Nat), j ≤ n ∧ i = .int .i64 j ∧ x = .slice a1 j c1 ∧ y = .slice a2 j c2 ∧ Two w L σ τ j j (.slice a1 j c1) (.slice a2 j c2) wr ∧ Apart L j) (fun _ _ i _ => n - (intOf i).toNat)
    case atStart => exact ⟨0, _, _, _, _, by omega, rfl, rfl, rfl, ⟨World.ownsRow_nil _ _ _ _, World.ownsRow_nil _ _ _ _, fun g hg => (by cases hg), HB1.out⟩, fun p q hp => absurd hp (by omega)⟩
    case round =>
      obtain ⟨j, a1, c1, a2, c2, hj, rfl, rfl, rfl, hT, hA⟩ := hrel
      obtain ⟨w2, rfl⟩ : ∃ w2, w2 = wr := ⟨_, rfl⟩
      have HT := hidp hT
      have HA := hidp hA
      clear hT hA
      by_cases hlt : j < n
      · have l1 : (j : Int) < (n : Int) := by omega
        obtain ⟨g, o, rfl, hrw⟩ := HL.out.rows (by omega)
        have hjl : j < L.length := by rw [HL.out.len]; exact hlt
        have HRW := hidp hrw
        have HJL := hidp hjl
        clear hrw hjl
        go_wp2
        go_loopw [10] (fun i wr => ∃ m : Nat, m ≤ j ∧ i = .int .i64 m ∧ Hid (∀ q, q < m → (L.getD q cnd0).peer ≠ (L.getD j cnd0).peer) ∧ Below w2.heap.size w2 wr) (fun i _ => j - (intOf i).toNat)
        case atStart => exact ⟨0, by omega, rfl, hidp (fun q hq => absurd hq (by omega)), Below.refl _ _⟩
        case round =>
          obtain ⟨m, hm, rfl, HD, hB⟩ := hrel
          obtain ⟨w3, rfl⟩ : ∃ w3, w3 = wr := ⟨_, rfl⟩
          have HB := hidp hB
          clear hB
          have hBw : Below w.heap.size w w3 := HT.out.below.trans (HB.out.mono HT.out.below.size)
          by_cases hlm : m < j
          · have l2 : (m : Int) < (j : Int) := by omega
            have l3 : (m : Int) < (n : Int) := by omega
            have hml : m < L.length := by have := HJL.out; omega
            have cm : w3.cell? ⟨g, o + m * 16, none⟩ = some (.int .i64 (L.getD m cnd0).peer) := by
              have h1 := below_cell hBw (Nat.le_refl _) _ _ (HRW.out m hml 0 _ rfl)
              rw [Nat.add_zero] at h1
              rw [h1]
              simp [List.getD, hml]
            have cj : w3.cell? ⟨g, o + j * 16, none⟩ = some (.int .i64 (L.getD j cnd0).peer) := by
              have h1 := below_cell hBw (Nat.le_refl _) _ _ (HRW.out j HJL.out 0 _ rfl)
              rw [Nat.add_zero] at h1
              rw [h1]
              simp [List.getD, HJL.out]
            have HBW := hidp hBw
            clear hBw
            obtain ⟨pm, hpm⟩ : ∃ pm, pm = (L.getD m cnd0).peer := ⟨_, rfl⟩
            obtain ⟨pj, hpj⟩ : ∃ pj, pj = (L.getD j cnd0).peer := ⟨_, rfl⟩
            rw [← hpm] at cm
            rw [← hpj] at cj
            have HPM := hidp (And.intro hpm hpj)
            clear hpm hpj
            by_cases hpe : pm = pj
            · have l4 : (pm == pj) = true := by simpa using hpe
              clear hpe
              go_upto_region 12 with (fail)
              go_quiet (fail)
              go_wp2_with (first
                | (go_at_call 9; refine (awake_any _).mono ?_; rintro e w4 ⟨rfl, B4⟩
                   have H4 := hidp B4
                   clear B4))
              go_ret
              exact ⟨rfl, (below_drewN HBW.out _).trans (H4.out.mono (below_drewN HBW.out _).size)⟩
            · have l4 : (pm == pj) = false := by simpa using hpe
              go_upto_region 12 with (fail)
              go_quiet (fail)
              go_wp2
              go_roundw
              case rel =>
                refine ⟨m + 1, by omega, by go_num, hidp (fun q hq => ?_), below_drewN HB.out _⟩
                by_cases hqm : q = m
                · subst hqm
                  rw [← HPM.out.1, ← HPM.out.2]
                  exact hpe
                · exact HD.out q (by omega)
              case measure => simp [intOf]; omega
          · have l2 : ¬ (m : Int) < (j : Int) := by omega
            obtain rfl : m = j := by omega
            have hT3 := HT.out.later HB.out
            have hA1 : Apart L (m + 1) := by
              intro p q hp hq
              by_cases hpm : p = m
              · subst hpm
                exact HD.out q hq
              · exact HA.out p q (by omega) hq
            have HA1 := hidp hA1
            have HT3 := hidp hT3
            have HBW := hidp hBw
            clear hA1 hT3 hBw HB HT HA HD
            have hs : n - 1 - m < L.length := by have := HJL.out; rw [HL.out.len] at *; omega
            have ht : (m + f) % n < L.length := by rw [HL.out.len]; exact Nat.mod_lt _ (by omega)
            have rs : w3.rangeAt g (o + (n - 1 - m) * 16) (L[n - 1 - m]).cells := fun j v hv => below_cell HBW.out (Nat.le_refl _) _ _ (HRW.out _ hs j v hv)
            have rt : ∀ W, Below w.heap.size w W → W.rangeAt g (o + ((m + f) % n) * 16) (L[(m + f) % n]).cells := fun W hW j v hv => below_cell hW (Nat.le_refl _) _ _ (HRW.out _ ht j v hv)
            have es : L[n - 1 - m] = L.getD (σ m) cnd0 := by rw [HSI.out]; simp [List.getD, hs]
            have et : L[(m + f) % n] = L.getD (τ m) cnd0 := by rw [HTA.out]; simp [List.getD, ht]
            generalize L[n - 1 - m] = cs at *
            generalize L[(m + f) % n] = ct at *
            have hml : m ≤ 30 := by omega
            have m1 : 0 ≤ ((m : Int) + (f : Int)) % (n : Int) := Int.emod_nonneg _ (by omega)
            have m2 : ((m : Int) + (f : Int)) % (n : Int) < (n : Int) := Int.emod_lt_of_pos _ (by omega)
            have hcs : cs.cells.length = 16 := Cnd.len cs
            have hct : ct.cells.length = 16 := Cnd.len ct
            have HRS := hidp rs
            have HRT := hidp rt
            have HES := hidp es
            have HET := hidp et
            clear rs rt es et
            go_upto_region 14 with (fail)
            go_wp2_with (first
              | (with_reducible refine wpList_load_mid rfl 34 (.tmp 59) rfl g (o + (n - 1 - m) * 16) rfl cs.cells _ HRS.out Try.underlying34 rfl (by rw [Cnd.len]; exact Try.info34) ?_)
              | (at_builtin
                 rw [fold16]
                 refine wpList_append_own_at (w3.alloc (.cells cs.cells.toArray 34)) rfl (.tmp 53) (.tmp 61) 22 rfl w.heap.size 34 i0 z16 16 144 Try.underlying22 hi0 hz0 hz1 hz2 rfl (by omega) (.slice a1 m c1) _ _ rfl (HT3.out.later ((Below.refl _ _).alloc (Nat.le_refl _) _)).bx ⟨w3.heap.size, 0, none⟩ 1 1 cs.cells rfl (by rw [Cnd.len]) (news16 w3 cs) cs.one (by rw [turn_len]; simp only [maxLen]; omega) (by rw [turn_len]; omega) ((HT3.out.later ((Below.refl _ _).alloc (Nat.le_refl _) _)).below.size) ?_
                 intro x' w4 hown hg4 _ hat
                 have hT4 := (HT3.out.later ((Below.refl _ _).alloc (Nat.le_refl _) (.cells cs.cells.toArray 34))).push HES.out hown hg4 (by rcases hat with e | e; exact .inl e; exact .inr (fun gg hgg => by rw [e] at hgg; cases hgg; exact Nat.le_refl _))
                 have HT4 := hidp hT4
                 clear hown hg4 hat hT4)
              | (with_reducible refine wpList_load_mid rfl 34 (.tmp 70) rfl g (o + (m + f) % n * 16) rfl ct.cells _ (HRT.out _ HT4.out.below) Try.underlying34 rfl (by rw [Cnd.len]; exact Try.info34) ?_)
              | (at_builtin
                 rw [fold16]
                 refine wpList_append_own_at (w4.alloc (.cells ct.cells.toArray 34)) rfl (.tmp 63) (.tmp 72) 22 rfl w.heap.size 34 i0 z16 16 144 Try.underlying22 hi0 hz0 hz1 hz2 rfl (by omega) (.slice a2 m c2) _ _ rfl (HT4.out.later ((Below.refl _ _).alloc (Nat.le_refl _) _)).bY ⟨w4.heap.size, 0, none⟩ 1 1 ct.cells rfl (by rw [Cnd.len]) (news16 w4 ct) ct.one (by rw [turn_len]; simp only [maxLen]; omega) (by rw [turn_len]; omega) ((HT4.out.later ((Below.refl _ _).alloc (Nat.le_refl _) _)).below.size) ?_
                 intro y' w5 hown hg5 _ hat
                 have hT5 := ((HT4.out.later ((Below.refl _ _).alloc (Nat.le_refl _) (.cells ct.cells.toArray 34))).swap.push HET.out hown hg5 (by rcases hat with e | e; exact .inl e; exact .inr (fun gg hgg => by rw [e] at hgg; cases hgg; exact Nat.le_refl _))).swap
                 have HT5 := hidp hT5
                 clear hown hg5 hat hT5))
            obtain ⟨a3, c3, rfl⟩ : ∃ a3 c3, x' = .slice a3 (m + 1) c3 := HT5.out.xs
            obtain ⟨a4, c4, rfl⟩ : ∃ a4 c4, y' = .slice a4 (m + 1) c4 := HT5.out.swap.xs
            go_roundw
            case rel => exact ⟨m + 1, a3, c3, a4, c4, by omega, by go_num, rfl, rfl, HT5.out, HA1.out⟩
            case measure => simp [intOf]; omega
      · have l1 : ¬ (j : Int) < (n : Int) := by omega
        obtain rfl : j = n := by omega
        clear hlt hj
        have h7 := HA.out.inj
        have hσ1 : ∀ i, i < j → σ i < j := fun i hi => by rw [HSI.out]; show j - 1 - i < j; omega
        have hτ1 : ∀ i, i < j → τ i < j := fun i hi => by rw [HTA.out]; exact Nat.mod_lt _ (by omega)
        have hcl := HL.out.below HT.out.below
        have hcb := HT.out.cands hcl (by rw [HL.out.len]; exact hσ1)
        have hco := HT.out.swap.cands hcl (by rw [HL.out.len]; exact hτ1)
        have hbb : ∀ (a b : Int), PBest L a → PBest (turnL L σ j) b → ∃ (p q : Nat), a = p ∧ b = q ∧ p < j ∧ q < j ∧ (L.getD p cnd0).peer = ((turnL L σ j).getD q cnd0).peer := fun a b ha hb => by
          refine turn_best HL.out.len σ hσ1 (fun i hi => ⟨j - 1 - i, by omega, ?_⟩) (fun p q hp hq he => ?_) h7 (by omega) ha hb
          · rw [HSI.out]; show j - 1 - (j - 1 - i) = i; omega
          · rw [HSI.out] at he
            have he' : j - 1 - p = j - 1 - q := he
            omega
        have hbo : ∀ (a b : Int), PBest L a → PBest (turnL L τ j) b → ∃ (p q : Nat), a = p ∧ b = q ∧ p < j ∧ q < j ∧ (L.getD p cnd0).peer = ((turnL L τ j).getD q cnd0).peer := fun a b ha hb => by
          refine turn_best HL.out.len τ hτ1 (fun i hi => ?_) (fun p q hp hq he => ?_) h7 (by omega) ha hb
          · rw [HTA.out]
            by_cases hif : f ≤ i
            · refine ⟨i - f, by omega, ?_⟩
              show (i - f + f) % j = i
              rw [rot_at hf (by omega)]
              split <;> omega
            · refine ⟨i + j - f, by omega, ?_⟩
              show (i + j - f + f) % j = i
              rw [rot_at hf (by omega)]
              split <;> omega
          · rw [HTA.out] at he
            have he' : (p + f) % j = (q + f) % j := he
            rw [rot_at hf hp, rot_at hf hq] at he'
            split at he' <;> split at he' <;> omega
        have hpb : ∀ c ∈ turnL L σ j, c.pl ≤ 1000000 := fun c hc => HP.out c (turn_mem (by rw [HL.out.len]; exact hσ1) hc)
        have hpo : ∀ c ∈ turnL L τ j, c.pl ≤ 1000000 := fun c hc => HP.out c (turn_mem (by rw [HL.out.len]; exact hτ1) hc)
        have hlb := turn_len L σ j
        have hlo := turn_len L τ j
        generalize turnL L σ j = Lb at *
        generalize turnL L τ j = Lo at *
        have HBB := hidp hbb
        have HBO := hidp hbo
        have HCL := hidp hcl
        have HCB := hidp hcb
        have HCO := hidp hco
        have k1 : ∀ W, Below w2.heap.size w2 W → Calls Try.prog 10 #[.slice a j c] W fun e w' => (∃ r : Int, e = .returned (.int .i64 r) ∧ PBest L r) ∧ Below W.heap.size W w' := fun W hW => pbest_any L a j c W (hcl.below hW) (by omega) HP.out
        have k2 : ∀ W, Below w2.heap.size w2 W → Calls Try.prog 10 #[.slice a1 j c1] W fun e w' => (∃ r : Int, e = .returned (.int .i64 r) ∧ PBest Lb r) ∧ Below W.heap.size W w' := fun W hW => pbest_any Lb a1 j c1 W (hcb.below hW) (by omega) hpb
        have k3 : ∀ W, Below w2.heap.size w2 W → Calls Try.prog 10 #[.slice a2 j c2] W fun e w' => (∃ r : Int, e = .returned (.int .i64 r) ∧ PBest Lo r) ∧ Below W.heap.size W w' := fun W hW => pbest_any Lo a2 j c2 W (hco.below hW) (by omega) hpo
        have K1 := hidp k1
        have K2 := hidp k2
        have K3 := hidp k3
        have HTB := hidp HT.out.below
        have HLN := hidp (And.intro hlb hlo)
        clear k1 k2 k3 hbb hbo hcl hcb hco hpb hpo hlb hlo HT HA h7 hσ1 hτ1 HSI HTA hf hi0 hz0 hz1 hz2 HB1
        go_upto_region 17 with (first
          | (go_at_call 10; (with_reducible refine (K1.out _ (Below.refl _ _)).mono ?_); rintro e w3 ⟨⟨r, rfl, hr⟩, B3⟩
             have H3 := hidp (And.intro hr B3)
             clear hr B3)
          | (go_at_call 10; (with_reducible refine (K2.out _ H3.out.2).mono ?_); rintro e w4 ⟨⟨r2, rfl, hr⟩, B4⟩
             have H4 := hidp (And.intro hr (H3.out.2.trans (B4.mono H3.out.2.size)))
             clear hr B4)
          | (go_at_call 10; (with_reducible refine (K3.out _ H4.out.2).mono ?_); rintro e w5 ⟨⟨r3, rfl, hr⟩, B5⟩
             obtain ⟨p, q, rfl, rfl, hp, hq, hpq⟩ := HBB.out _ _ H3.out.1 H4.out.1
             obtain ⟨p', t, hpp, rfl, hp', ht, hpt⟩ := HBO.out _ _ H3.out.1 hr
             obtain rfl : p = p' := by omega
             have H5 := hidp (H4.out.2.trans (B5.mono H4.out.2.size))
             have HE := hidp (And.intro hpq hpt)
             clear hr B5 hpq hpt hpp hp'))
        have l2 : decide ((p : Int) < 0) = false := decide_eq_false (by omega)
        have l3 : decide ((p : Int) ≥ j) = false := decide_eq_false (by omega)
        have l4 : decide ((q : Int) < 0) = false := decide_eq_false (by omega)
        have l5 : decide ((q : Int) ≥ j) = false := decide_eq_false (by omega)
        have l6 : decide ((t : Int) < 0) = false := decide_eq_false (by omega)
        have l7 : decide ((t : Int) ≥ j) = false := decide_eq_false (by omega)
        go_upto_region 19 with (fail)
        obtain ⟨P, hP⟩ : ∃ P, P = (L.getD p cnd0).peer := ⟨_, rfl⟩
        have hpl : p < L.length := by rw [HL.out.len]; exact hp
        have hql : q < Lb.length := by rw [HLN.out.1]; exact hq
        have htl : t < Lo.length := by rw [HLN.out.2]; exact ht
        obtain ⟨g, o, rfl, hr1⟩ := HCL.out.rows (by omega)
        obtain ⟨g2, o2, rfl, hr2⟩ := HCB.out.rows (by omega)
        obtain ⟨g3, o3, rfl, hr3⟩ := HCO.out.rows (by omega)
        have e1 : ∀ W, Below w2.heap.size w2 W → W.cell? ⟨g, o + p * 16, none⟩ = some (.int .i64 P) := fun W hW => by
          have h1 := below_cell hW (Nat.le_refl _) _ _ (hr1 p hpl 0 _ rfl)
          rw [Nat.add_zero] at h1
          rw [h1, hP]
          simp [List.getD, hpl]
        have e2 : ∀ W, Below w2.heap.size w2 W → W.cell? ⟨g2, o2 + q * 16, none⟩ = some (.int .i64 P) := fun W hW => by
          have h1 := below_cell hW (Nat.le_refl _) _ _ (hr2 q hql 0 _ rfl)
          rw [Nat.add_zero] at h1
          rw [h1, hP, HE.out.1]
          simp [List.getD, hql]
        have e3 : ∀ W, Below w2.heap.size w2 W → W.cell? ⟨g3, o3 + t * 16, none⟩ = some (.int .i64 P) := fun W hW => by
          have h1 := below_cell hW (Nat.le_refl _) _ _ (hr3 t htl 0 _ rfl)
          rw [Nat.add_zero] at h1
          rw [h1, hP, HE.out.2]
          simp [List.getD, htl]
        have E1 := hidp e1
        have E2 := hidp e2
        have E3 := hidp e3
        have l8 : (p : Int) < (j : Int) := by omega
        have l9 : (q : Int) < (j : Int) := by omega
        have l10 : (t : Int) < (j : Int) := by omega
        have hd : Below w2.heap.size w2 w5.drew := H5.out.drew
        clear e1 e2 e3 hr1 hr2 hr3 hpl hql htl hP HE HCL HCB HCO K1 K2 K3 HBB HBO HLN H3 H4 l2 l3 l4 l5 l6 l7
        refine wp_region_flow2 (fun iqv => ([(.slice (some ⟨g, o, none⟩) j c : Value), (.int .i64 (p : Int) : Value), (.pointer (some ⟨g, o + p * 16, none⟩) : Value), (.pointer (some ⟨g, o + p * 16, none⟩) : Value), (.int .i64 P : Value), (.slice (some ⟨g2, o2, none⟩) j c1 : Value), (.int .i64 (q : Int) : Value), (.pointer (some ⟨g2, o2 + q * 16, none⟩) : Value), (.pointer (some ⟨g2, o2 + q * 16, none⟩) : Value), (.int .i64 P : Value), (.bool true : Value), (.bool true : Value), (.slice (some ⟨g, o, none⟩) j c : Value), (.int .i64 (p : Int) : Value), (.pointer (some ⟨g, o + p * 16, none⟩) : Value), (.pointer (some ⟨g, o + p * 16, none⟩) : Value), (.int .i64 P : Value), (.slice (some ⟨g3, o3, none⟩) j c2 : Value), (.int .i64 (t : Int) : Value), (.pointer (some ⟨g3, o3 + t * 16, none⟩) : Value), (.pointer (some ⟨g3, o3 + t * 16, none⟩) : Value), (.int .i64 P : Value), (.bool true : Value), (.bool true : Value), (.bool true : Value), (.bool true : Value), (.bool true : Value), (.bool true : Value)] : List Value).getD iqv undef) [(some 105, .slice (some ⟨g, o, none⟩) j c), (some 106, .int .i64 (p : Int)), (some 107, .pointer (some ⟨g, o + p * 16, none⟩)), (some 108, .pointer (some ⟨g, o + p * 16, none⟩)), (some 109, .int .i64 P), (some 110, .slice (some ⟨g2, o2, none⟩) j c1), (some 111, .int .i64 (q : Int)), (some 112, .pointer (some ⟨g2, o2 + q * 16, none⟩)), (some 113, .pointer (some ⟨g2, o2 + q * 16, none⟩)), (some 114, .int .i64 P), (some 115, .bool true), (some 116, .bool true), (some 117, .slice (some ⟨g, o, none⟩) j c), (some 118, .int .i64 (p : Int)), (some 119, .pointer (some ⟨g, o + p * 16, none⟩)), (some 120, .pointer (some ⟨g, o + p * 16, none⟩)), (some 121, .int .i64 P), (some 122, .slice (some ⟨g3, o3, none⟩) j c2), (some 123, .int .i64 (t : Int)), (some 124, .pointer (some ⟨g3, o3 + t * 16, none⟩)), (some 125, .pointer (some ⟨g3, o3 + t * 16, none⟩)), (some 126, .int .i64 P), (some 127, .bool true), (some 128, .bool true), (some 129, .bool true), (some 130, .bool true), (some 131, .bool true), (some 4, .bool true)] (fun W : World => Below w2.heap.size w2 W) (by kernel_rfl) (by kernel_rfl) hd (fun iq hiq => ?_) (by kernel_rfl) (fun W hSW => ?_)
        · match iq, hiq with
          | 0, _ =>
            intro aq W hSW hf
            have v0 : aq.tmps[0]? = some (.slice (some ⟨g, o, none⟩) j c) := (hf.at_base 0 (by kernel_rfl)).trans rfl
            clear hf
            refine wpOp_flow rfl (by rfl) (fun Kq hK => ?_)
            go_simp
            exact hK _ _ ⟨rfl, hSW⟩
          | 1, _ =>
            intro aq W hSW hf
            have v11 : aq.tmps[11]? = some (.int .i64 (p : Int)) := (hf.at_base 11 (by kernel_rfl)).trans rfl
            clear hf
            refine wpOp_flow rfl (by rfl) (fun Kq hK => ?_)
            go_simp
            exact hK _ _ ⟨rfl, hSW⟩
          | 2, _ =>
            intro aq W hSW hf
            have v105 : aq.tmps[105]? = some (.slice (some ⟨g, o, none⟩) j c) := hf.val 0 105 (by kernel_rfl) rfl
            have v106 : aq.tmps[106]? = some (.int .i64 (p : Int)) := hf.val 1 106 (by kernel_rfl) rfl
            clear hf
            refine wpOp_flow rfl (by rfl) (fun Kq hK => ?_)
            go_simp
            exact hK _ _ ⟨rfl, hSW⟩
          | 3, _ =>
            intro aq W hSW hf
            have v107 : aq.tmps[107]? = some (.pointer (some ⟨g, o + p * 16, none⟩)) := hf.val 2 107 (by kernel_rfl) rfl
            clear hf
            refine wpOp_flow rfl (by rfl) (fun Kq hK => ?_)
            go_simp
            exact hK _ _ ⟨rfl, hSW⟩
          | 4, _ =>
            intro aq W hSW hf
            have v108 : aq.tmps[108]? = some (.pointer (some ⟨g, o + p * 16, none⟩)) := hf.val 3 108 (by kernel_rfl) rfl
            clear hf
            refine wpOp_flow rfl (by rfl) (fun Kq hK => ?_)
            have ec := E1.out W hSW
            go_simp
            exact hK _ _ ⟨rfl, hSW⟩
          | 5, _ =>
            intro aq W hSW hf
            have v5 : aq.tmps[5]? = some (.slice (some ⟨g2, o2, none⟩) j c1) := (hf.at_base 5 (by kernel_rfl)).trans rfl
            clear hf
            refine wpOp_flow rfl (by rfl) (fun Kq hK => ?_)
            go_simp
            exact hK _ _ ⟨rfl, hSW⟩
          | 6, _ =>
            intro aq W hSW hf
            have v12 : aq.tmps[12]? = some (.int .i64 (q : Int)) := (hf.at_base 12 (by kernel_rfl)).trans rfl
            clear hf
            refine wpOp_flow rfl (by rfl) (fun Kq hK => ?_)
            go_simp
            exact hK _ _ ⟨rfl, hSW⟩
          | 7, _ =>
            intro aq W hSW hf
            have v110 : aq.tmps[110]? = some (.slice (some ⟨g2, o2, none⟩) j c1) := hf.val 5 110 (by kernel_rfl) rfl
            have v111 : aq.tmps[111]? = some (.int .i64 (q : Int)) := hf.val 6 111 (by kernel_rfl) rfl
            clear hf
            refine wpOp_flow rfl (by rfl) (fun Kq hK => ?_)
            go_simp
            exact hK _ _ ⟨rfl, hSW⟩
          | 8, _ =>
            intro aq W hSW hf
            have v112 : aq.tmps[112]? = some (.pointer (some ⟨g2, o2 + q * 16, none⟩)) := hf.val 7 112 (by kernel_rfl) rfl
            clear hf
            refine wpOp_flow rfl (by rfl) (fun Kq hK => ?_)
            go_simp
            exact hK _ _ ⟨rfl, hSW⟩
          | 9, _ =>
            intro aq W hSW hf
            have v113 : aq.tmps[113]? = some (.pointer (some ⟨g2, o2 + q * 16, none⟩)) := hf.val 8 113 (by kernel_rfl) rfl
            clear hf
            refine wpOp_flow rfl (by rfl) (fun Kq hK => ?_)
            have ec := E2.out W hSW
            go_simp
            exact hK _ _ ⟨rfl, hSW⟩
          | 10, _ =>
            intro aq W hSW hf
            have v109 : aq.tmps[109]? = some (.int .i64 P) := hf.val 4 109 (by kernel_rfl) rfl
            have v114 : aq.tmps[114]? = some (.int .i64 P) := hf.val 9 114 (by kernel_rfl) rfl
            clear hf
            refine wpOp_flow rfl (by rfl) (fun Kq hK => ?_)
            go_simp
            exact hK _ _ ⟨rfl, hSW⟩
          | 11, _ =>
            intro aq W hSW hf
            have v115 : aq.tmps[115]? = some (.bool true) := hf.val 10 115 (by kernel_rfl) rfl
            clear hf
            refine wpOp_flow rfl (by rfl) (fun Kq hK => ?_)
            go_simp
            exact hK _ _ ⟨rfl, hSW⟩
          | 12, _ =>
            intro aq W hSW hf
            have v0 : aq.tmps[0]? = some (.slice (some ⟨g, o, none⟩) j c) := (hf.at_base 0 (by kernel_rfl)).trans rfl
            have v116 : aq.tmps[116]? = some (.bool true) := hf.val 11 116 (by kernel_rfl) rfl
            clear hf
            refine wpOp_flow rfl (wanted_of rfl rfl v116) (fun Kq hK => ?_)
            go_simp
            exact hK _ _ ⟨rfl, hSW⟩
          | 13, _ =>
            intro aq W hSW hf
            have v11 : aq.tmps[11]? = some (.int .i64 (p : Int)) := (hf.at_base 11 (by kernel_rfl)).trans rfl
            have v116 : aq.tmps[116]? = some (.bool true) := hf.val 11 116 (by kernel_rfl) rfl
            clear hf
            refine wpOp_flow rfl (wanted_of rfl rfl v116) (fun Kq hK => ?_)
            go_simp
            exact hK _ _ ⟨rfl, hSW⟩
          | 14, _ =>
            intro aq W hSW hf
            have v116 : aq.tmps[116]? = some (.bool true) := hf.val 11 116 (by kernel_rfl) rfl
            have v117 : aq.tmps[117]? = some (.slice (some ⟨g, o, none⟩) j c) := hf.val 12 117 (by kernel_rfl) rfl
            have v118 : aq.tmps[118]? = some (.int .i64 (p : Int)) := hf.val 13 118 (by kernel_rfl) rfl
            clear hf
            refine wpOp_flow rfl (wanted_of rfl rfl v116) (fun Kq hK => ?_)
            go_simp
            exact hK _ _ ⟨rfl, hSW⟩
          | 15, _ =>
            intro aq W hSW hf
            have v116 : aq.tmps[116]? = some (.bool true) := hf.val 11 116 (by kernel_rfl) rfl
            have v119 : aq.tmps[119]? = some (.pointer (some ⟨g, o + p * 16, none⟩)) := hf.val 14 119 (by kernel_rfl) rfl
            clear hf
            refine wpOp_flow rfl (wanted_of rfl rfl v116) (fun Kq hK => ?_)
            go_simp
            exact hK _ _ ⟨rfl, hSW⟩
          | 16, _ =>
            intro aq W hSW hf
            have v116 : aq.tmps[116]? = some (.bool true) := hf.val 11 116 (by kernel_rfl) rfl
            have v120 : aq.tmps[120]? = some (.pointer (some ⟨g, o + p * 16, none⟩)) := hf.val 15 120 (by kernel_rfl) rfl
            clear hf
            refine wpOp_flow rfl (wanted_of rfl rfl v116) (fun Kq hK => ?_)
            have ec := E1.out W hSW
            go_simp
            exact hK _ _ ⟨rfl, hSW⟩
          | 17, _ =>
            intro aq W hSW hf
            have v6 : aq.tmps[6]? = some (.slice (some ⟨g3, o3, none⟩) j c2) := (hf.at_base 6 (by kernel_rfl)).trans rfl
            have v116 : aq.tmps[116]? = some (.bool true) := hf.val 11 116 (by kernel_rfl) rfl
            clear hf
            refine wpOp_flow rfl (wanted_of rfl rfl v116) (fun Kq hK => ?_)
            go_simp
            exact hK _ _ ⟨rfl, hSW⟩
          | 18, _ =>
            intro aq W hSW hf
            have v13 : aq.tmps[13]? = some (.int .i64 (t : Int)) := (hf.at_base 13 (by kernel_rfl)).trans rfl
            have v116 : aq.tmps[116]? = some (.bool true) := hf.val 11 116 (by kernel_rfl) rfl
            clear hf
            refine wpOp_flow rfl (wanted_of rfl rfl v116) (fun Kq hK => ?_)
            go_simp
            exact hK _ _ ⟨rfl, hSW⟩
          | 19, _ =>
            intro aq W hSW hf
            have v116 : aq.tmps[116]? = some (.bool true) := hf.val 11 116 (by kernel_rfl) rfl
            have v122 : aq.tmps[122]? = some (.slice (some ⟨g3, o3, none⟩) j c2) := hf.val 17 122 (by kernel_rfl) rfl
            have v123 : aq.tmps[123]? = some (.int .i64 (t : Int)) := hf.val 18 123 (by kernel_rfl) rfl
            clear hf
            refine wpOp_flow rfl (wanted_of rfl rfl v116) (fun Kq hK => ?_)
            go_simp
            exact hK _ _ ⟨rfl, hSW⟩
          | 20, _ =>
            intro aq W hSW hf
            have v116 : aq.tmps[116]? = some (.bool true) := hf.val 11 116 (by kernel_rfl) rfl
            have v124 : aq.tmps[124]? = some (.pointer (some ⟨g3, o3 + t * 16, none⟩)) := hf.val 19 124 (by kernel_rfl) rfl
            clear hf
            refine wpOp_flow rfl (wanted_of rfl rfl v116) (fun Kq hK => ?_)
            go_simp
            exact hK _ _ ⟨rfl, hSW⟩
          | 21, _ =>
            intro aq W hSW hf
            have v116 : aq.tmps[116]? = some (.bool true) := hf.val 11 116 (by kernel_rfl) rfl
            have v125 : aq.tmps[125]? = some (.pointer (some ⟨g3, o3 + t * 16, none⟩)) := hf.val 20 125 (by kernel_rfl) rfl
            clear hf
            refine wpOp_flow rfl (wanted_of rfl rfl v116) (fun Kq hK => ?_)
            have ec := E3.out W hSW
            go_simp
            exact hK _ _ ⟨rfl, hSW⟩
          | 22, _ =>
            intro aq W hSW hf
            have v116 : aq.tmps[116]? = some (.bool true) := hf.val 11 116 (by kernel_rfl) rfl
            have v121 : aq.tmps[121]? = some (.int .i64 P) := hf.val 16 121 (by kernel_rfl) rfl
            have v126 : aq.tmps[126]? = some (.int .i64 P) := hf.val 21 126 (by kernel_rfl) rfl
            clear hf
            refine wpOp_flow rfl (wanted_of rfl rfl v116) (fun Kq hK => ?_)
            go_simp
            exact hK _ _ ⟨rfl, hSW⟩
          | 23, _ =>
            intro aq W hSW hf
            have v116 : aq.tmps[116]? = some (.bool true) := hf.val 11 116 (by kernel_rfl) rfl
            have v127 : aq.tmps[127]? = some (.bool true) := hf.val 22 127 (by kernel_rfl) rfl
            clear hf
            refine wpOp_flow rfl (by rfl) (fun Kq hK => ?_)
            go_simp
            exact hK _ _ ⟨rfl, hSW⟩
          | 24, _ =>
            intro aq W hSW hf
            have v128 : aq.tmps[128]? = some (.bool true) := hf.val 23 128 (by kernel_rfl) rfl
            clear hf
            refine wpOp_flow rfl (by rfl) (fun Kq hK => ?_)
            go_simp
            exact hK _ _ ⟨rfl, hSW⟩
          | 25, _ =>
            intro aq W hSW hf
            have v129 : aq.tmps[129]? = some (.bool true) := hf.val 24 129 (by kernel_rfl) rfl
            clear hf
            refine wpOp_flow rfl (wanted_of rfl rfl v129) (fun Kq hK => ?_)
            go_simp
            refine (awake_any _).mono ?_
            rintro e w9 ⟨rfl, B9⟩
            exact hK _ _ ⟨rfl, hSW.trans (B9.mono hSW.size)⟩
          | 26, _ =>
            intro aq W hSW hf
            have v129 : aq.tmps[129]? = some (.bool true) := hf.val 24 129 (by kernel_rfl) rfl
            have v130 : aq.tmps[130]? = some (.bool true) := hf.val 25 130 (by kernel_rfl) rfl
            clear hf
            refine wpOp_flow rfl (by rfl) (fun Kq hK => ?_)
            go_simp
            exact hK _ _ ⟨rfl, hSW⟩
          | 27, _ =>
            intro aq W hSW hf
            have v131 : aq.tmps[131]? = some (.bool true) := hf.val 26 131 (by kernel_rfl) rfl
            clear hf
            refine wpOp_flow rfl (by rfl) (fun Kq hK => ?_)
            go_simp
            exact hK _ _ ⟨rfl, hSW⟩
          | kq + 28, hk => exact absurd hk (by first | omega | (intro h; simp at h; omega))
        · simp only [puts, Act.put, List.setIfInBounds_toArray, List.set_cons_zero, List.set_cons_succ]
          have hb := HTB.out.trans (hSW.mono HTB.out.size)
          clear hSW
          go_wp2
          go_ret
          exact ⟨rfl, hb⟩
end Go.Proofs.Ythfchjcbkmabpaa
