/- The law RibinBounds. -/
import Derived.Test.YtnenpfalhbbadaaLawTells
import Derived.Test.YtnenpfalhbbadaaUB
namespace Go.Proofs.Ytnenpfalhbbadaa
open Go.RowKit

theorem putL_most (v : Att) (lim : Int) : ∀ (l : List Pf) (A : Ab) (n : Int), n ≤ lim → (putL v lim A n l).2.1 ≤ lim ∧ ((putL v lim A n l).2.2 = true → (putL v lim A n l).2.1 = lim)
  | [], A, n, h => ⟨h, fun hx => by cases hx⟩
  | q :: r, A, n, h => by
    rw [putL]
    split
    · split
      · exact putL_most v lim r _ n h
      · split
        · exact ⟨h, fun _ => by show n = lim; omega⟩
        · exact putL_most v lim r _ (n + 1) (by omega)
    · exact putL_most v lim r A n h
theorem keys_put (q : Pf) (v : Att) : ∀ A : Ab, (keysA (putA A q v)).length ≤ (keysA A).length + 1
  | .nil => by simp [putA, keysA]
  | .node k h a l r => by
    have h1 := keys_put q v l
    have h2 := keys_put q v r
    rw [putA]
    split
    · simp only [keysA, List.length_append]
      cases h <;> simp <;> omega
    · split
      · split
        · simp only [keysA, List.length_append]; omega
        · simp only [keysA, List.length_append]; omega
      · split
        · split
          · simp only [keysA, List.length_append]; simp; omega
          · simp only [keysA, List.length_append]; simp; omega
        · have e : ∀ X Y : Ab, (keysA (.node (commonF q k) false att0 X Y)).length = (keysA X).length + (keysA Y).length := fun X Y => by simp [keysA]
          rw [e]
          split <;> split <;> simp [keysA] <;> omega
theorem keys_j (k : Pf) (h : Bool) (v : Att) (l r : Ab) : (keysA (jA k h v l r)).length ≤ (keysA (.node k h v l r)).length := by
  unfold jA
  split
  · exact Nat.le_refl _
  · split <;> simp only [keysA, List.length_append] <;> omega
theorem keys_del (q : Pf) : ∀ A : Ab, (keysA (delA A q)).length ≤ (keysA A).length
  | .nil => Nat.le_refl _
  | .node k h a l r => by
    have h1 := keys_del q l
    have h2 := keys_del q r
    rw [delA]
    split
    · refine Nat.le_trans (keys_j _ _ _ _ _) ?_
      simp only [keysA, List.length_append]
      simp
    · split
      · refine Nat.le_trans (keys_j _ _ _ _ _) ?_
        simp only [keysA, List.length_append]; omega
      · refine Nat.le_trans (keys_j _ _ _ _ _) ?_
        simp only [keysA, List.length_append]; omega
theorem keys_delL : ∀ (l : List Pf) (A : Ab) (n : Int), (keysA (delL A n l).1).length ≤ (keysA A).length
  | [], A, n => Nat.le_refl _
  | q :: r, A, n => by
    rw [delL]
    split
    · exact Nat.le_trans (keys_delL r _ _) (keys_del q A)
    · exact keys_delL r A n
theorem keys_putL (v : Att) (lim : Int) : ∀ (l : List Pf) (A : Ab) (n : Int), (keysA (putL v lim A n l).1).length ≤ (keysA A).length + l.length
  | [], A, n => Nat.le_refl _
  | q :: r, A, n => by
    have h := keys_put q v A
    rw [putL]
    split
    · split
      · have := keys_putL v lim r (putA A q v) n
        simp only [List.length_cons]; omega
      · split
        · exact Nat.le_add_right _ _
        · have := keys_putL v lim r (putA A q v) (n + 1)
          simp only [List.length_cons]; omega
    · have := keys_putL v lim r A n
      simp only [List.length_cons]; omega
theorem keys_upd (A : Ab) (n lim : Int) (u : Upd) : (keysA (updA A n lim u).1).length ≤ (keysA A).length + u.news.length := by
  unfold updA
  exact Nat.le_trans (keys_putL _ _ _ _ _) (Nat.add_le_add_right (keys_delL _ _ _) _)
theorem root_wf {A : Ab} (h : WF A) : rootIn ⟨0, 0⟩ A := by
  cases A with
  | nil => trivial
  | node q hh v l r => exact zero_covers h.1 h.2.1
theorem ents_ok {wA W : World} {x : Option Addr} {A : Ab} {n lim : Int} (h : InAt wA W x A n lim) : ∀ e ∈ entA A, e.p.ok ∧ e.att.at wA := fun e he => by
  unfold entA at he
  obtain ⟨p, hp, rfl⟩ := List.mem_map.1 he
  exact ⟨in_keys h p hp, getA_at h p⟩
/-- the routes behind some updates, the updates -/
structure BX (w : World) (x : Option Addr) (A : Ab) (m lim : Int) (L : List Upd) (a : Option Addr) (n : Nat) (j : Nat) (W : World) : Prop where
  bel : Below w.heap.size w W
  inx : InAt w W x A m lim
  wf : WF A
  lo : -(30 * (j : Int)) ≤ m
  hi : m ≤ lim
  keys : (keysA A).length ≤ 30 * j
  la : UpdsV W a n L
theorem BX.below {w W W' : World} {x : Option Addr} {A : Ab} {m lim : Int} {L : List Upd} {a : Option Addr} {n j : Nat} (h : BX w x A m lim L a n j W) (hB : Below W.heap.size W W') : BX w x A m lim L a n j W' :=
  ⟨h.bel.trans (hB.mono h.bel.size), h.inx.below hB, h.wf, h.lo, h.hi, h.keys, h.la.below hB⟩
theorem entries_row {w W : World} {x : Option Addr} {A : Ab} {m lim : Int} {L : List Upd} {a : Option Addr} {n j : Nat} (h : BX w x A m lim L a n j W) (hj : 30 * j ≤ 1000) :
    Calls Try.prog 10 #[.pointer x] W fun e W' => (∃ b c, e = .returned (.slice b (entA A).length c) ∧ EnsV w W' b (entA A).length (entA A)) ∧ Below W.heap.size W W' := by
  have hk := h.keys
  refine (entries_any w x A m lim W h.inx (root_wf h.wf) (by omega)).mono ?_
  rintro e W' ⟨⟨v, rfl, hv⟩, hB⟩
  obtain ⟨b, c, rfl, hE⟩ := own_ens hv (ents_ok h.inx)
  exact ⟨⟨b, c, rfl, hE⟩, hB⟩
set_option maxRecDepth 100000 in
set_option maxHeartbeats 16000000 in
theorem lawBounds_any (k : Nat) (hk : k ≤ 255) (L : List Upd) (a : Option Addr) (n c : Nat) (w : World) (hL : UpdsV w a n L) : Calls Try.prog 3 #[.int .u8 (k : Int), .slice a n c] w fun e w' => e = .returned (.bool true) ∧ Below w.heap.size w w' := by
  have HL := hidp hL
  clear hL
  go_enter Try.func3, Try.ntmps3
  go_wp2_with fail
  refine (few7 L a n c 16 _ HL.out (by decide)).mono ?_
  rintro e w1 ⟨⟨bf, rfl, hbf⟩, B1⟩
  have HB1 := hidp B1
  have HL1 := hidp (HL.out.below B1)
  have HBF := hidp hbf
  clear B1 hbf
  cases bf with
  | false =>
    clear HBF
    go_wp2_with (go_at_call 8; go_must (
      refine (awake_any _).mono ?_
      rintro e w2 ⟨rfl, B2⟩
      have H3 := hidp (HB1.out.trans (B2.mono HB1.out.size))
      clear B2))
    go_ret
    exact ⟨rfl, H3.out⟩
  | true =>
    have HF := hidp (HBF.out rfl)
    clear HBF
    obtain ⟨lim, hlim, hl20⟩ : ∃ lim : Nat, (k : Int) % 20 = (lim : Int) ∧ lim < 20 := ⟨k % 20, by omega, Nat.mod_lt _ (by decide)⟩
    have HLIM := hidp hlim
    clear hlim
    go_wp2_with fail
    rw [HLIM.out]
    refine (new_any w lim _).mono ?_
    rintro e w3 ⟨⟨b, rfl, -, hI⟩, B3⟩
    rw [if_neg (by omega)] at hI
    have HX := hidp (BX.mk (j := 0) (HB1.out.trans (B3.mono HB1.out.size)) hI trivial (by omega) (by omega) (by simp [keysA]) (HL1.out.below B3))
    clear hI B3
    go_wp2
    go_loopw [6, 7] (fun x i wr => ∃ (j : Nat) (x' : Option Addr) (A : Ab) (m : Int), j ≤ n ∧ x = .pointer x' ∧ i = .int .i64 (j : Int) ∧ Hid (BX w x' A m lim L a n j wr)) (fun _ i _ => n - (intOf i).toNat)
    case atStart => exact ⟨0, _, .nil, 0, by omega, rfl, rfl, HX.out⟩
    case round =>
      clear HX
      obtain ⟨j, x', A, m, hj, rfl, rfl, HX⟩ := hrel
      have hn16 : n ≤ 16 := HF.out.1
      by_cases hlt : j < n
      · have l1 : (j : Int) < (n : Int) := by omega
        obtain ⟨g, o, eg, hrw⟩ := HX.out.la.row (by omega)
        have hjl : j < L.length := by rw [HX.out.la.2.1]; exact hlt
        have hr := hrw j hjl
        have hat := HX.out.la.2.2 _ (List.getElem_mem hjl)
        have hat0 := HL.out.2.2 _ (List.getElem_mem hjl)
        have hfu := (HF.out.2 _ (List.getElem_mem hjl)).2
        generalize L[j] = v at *
        have hup := updA_facts A m lim v ⟨0, 0⟩ HX.out.wf hat.news.2.2
        have hul := upd_len hat
        have hku := keys_upd A m lim v
        have hmo := putL_most v.att lim v.news (delL A m v.gone).1 (delL A m v.gone).2 (by have := (delL_facts ⟨0, 0⟩ v.gone A m HX.out.wf).2.2.2; have := HX.out.hi; omega)
        have HEN := hidp (fun W (hW : BX w x' A m lim L a n j W) => entries_row hW (by omega))
        have HU := hidp (fun W (hW : BX w x' A m lim L a n j W) (hv : v.at W) => update_any same45_any w x' A m lim v W hW.inx hv hat0.att hW.bel (by omega) (by omega) (by have := hW.lo; omega) (by have := hW.hi; omega))
        obtain ⟨A', m', ov, hup2⟩ : ∃ A' m' ov, updA A m lim v = (A', m', ov) := ⟨_, _, _, rfl⟩
        rw [show putL v.att lim (delL A m v.gone).1 (delL A m v.gone).2 v.news = (A', m', ov) from hup2] at hmo
        have HNX := hidp (show WF A' ∧ -(30 * ((j + 1 : Nat) : Int)) ≤ m' ∧ (keysA A').length ≤ 30 * (j + 1) by
          have h1 := hup.wf
          have h2 := hup.lo
          have h3 := HX.out.lo
          have h4 := HX.out.keys
          rw [hup2] at h1 h2 hku
          refine ⟨h1, ?_, ?_⟩
          · simp only at h2
            omega
          · simp only at hku
            omega)
        have HMO := hidp hmo
        rw [hup2] at HU
        have hvv : v.val = .agg v.cells.toArray := rfl
        have hiv : Hid ((Try.prog.info? 39).map (·.size) = some v.cells.length) := Try.info39
        rw [hvv] at HU
        have HR := hidp hr
        have HAT := hidp hat
        subst eg
        clear hrw hr hat hat0 hfu hup hul hku hmo hup2 hvv hjl
        have hgt : ¬ ((lim : Int) < m') := by have := HMO.out.1; simp only at this; omega
        cases ov with
        | false =>
          go_wp2_with (first
            | (go_at_call 10; go_must (
               first
               | (refine (HEN.out _ HX.out).mono ?_
                  rintro e w4 ⟨⟨b4, c4, rfl, hE4⟩, B4⟩
                  have HX4 := hidp (HX.out.below B4)
                  have HR4 := hidp (show w4.rangeAt g (o + j * 13) v.cells from fun i y hy => below_cell B4 (Nat.le_refl _) _ _ (HR.out i y hy))
                  have HA4 := hidp (HAT.out.below B4)
                  have HE4 := hidp hE4
                  clear hE4 B4)
               | (refine (HEN.out _ HX6.out).mono ?_
                  rintro e w7 ⟨⟨b7, c7, rfl, hE7⟩, B7⟩
                  have HX7 := hidp (HX6.out.below B7)
                  have HE67 := hidp (HE6.out.below B7)
                  have HI7 := hidp (HI6.out.below B7)
                  have HE7 := hidp hE7
                  clear hE7 B7)))
            | (with_reducible refine wpList_load_mid rfl 39 (.tmp 33) rfl g (o + j * 13) rfl v.cells _ HR4.out Try.underlying39 rfl hiv.out ?_)
            | (go_at_call 11; go_must (
               refine (HU.out _ HX4.out HA4.out).mono ?_
               rintro e w5 ⟨⟨b5, a5, c5, rfl, hI5, -⟩, B5⟩
               have HX5 := hidp (HX4.out.below B5)
               have HE5 := hidp (HE4.out.below B5)
               have HI5 := hidp hI5
               clear hI5 B5))
            | (go_at_call 12; go_must (
               refine (len_any w _ A' m' lim _ HI5.out).mono ?_
               rintro e w6 ⟨rfl, B6⟩
               have HX6 := hidp (HX5.out.below B6)
               have HE6 := hidp (HE5.out.below B6)
               have HI6 := hidp (HI5.out.below B6)
               clear B6))
            | (go_at_call 13; go_must (
               refine (same13_refl w b7 b4 (entA A).length c7 c4 (entA A) _ HE7.out HE67.out (by have := HX7.out.keys; unfold entA; rw [List.length_map]; omega) HX7.out.bel).mono ?_
               rintro e w8 ⟨rfl, B8⟩
               have HX8 := hidp (HX7.out.below B8)
               have HI8 := hidp (HI7.out.below B8)
               clear B8)))
          go_roundw
          case rel => exact ⟨j + 1, _, A', m', by omega, rfl, by go_num, HX8.out.bel, HI8.out, HNX.out.1, HNX.out.2.1, HMO.out.1, HNX.out.2.2, HX8.out.la⟩
          case measure => simp [intOf]; omega
        | true =>
          have heq : m' = (lim : Int) := HMO.out.2 rfl
          go_wp2_with (first
            | (go_at_call 10; go_must (
               first
               | (refine (HEN.out _ HX.out).mono ?_
                  rintro e w4 ⟨⟨b4, c4, rfl, hE4⟩, B4⟩
                  have HX4 := hidp (HX.out.below B4)
                  have HR4 := hidp (show w4.rangeAt g (o + j * 13) v.cells from fun i y hy => below_cell B4 (Nat.le_refl _) _ _ (HR.out i y hy))
                  have HA4 := hidp (HAT.out.below B4)
                  have HE4 := hidp hE4
                  clear hE4 B4)
               | (refine (HEN.out _ HX6.out).mono ?_
                  rintro e w7 ⟨⟨b7, c7, rfl, hE7⟩, B7⟩
                  have HX7 := hidp (HX6.out.below B7)
                  have HE67 := hidp (HE6.out.below B7)
                  have HI7 := hidp (HI6.out.below B7)
                  have HE7 := hidp hE7
                  clear hE7 B7)))
            | (with_reducible refine wpList_load_mid rfl 39 (.tmp 33) rfl g (o + j * 13) rfl v.cells _ HR4.out Try.underlying39 rfl hiv.out ?_)
            | (go_at_call 11; go_must (
               refine (HU.out _ HX4.out HA4.out).mono ?_
               rintro e w5 ⟨⟨b5, a5, c5, rfl, hI5, -⟩, B5⟩
               have HX5 := hidp (HX4.out.below B5)
               have HE5 := hidp (HE4.out.below B5)
               have HI5 := hidp hI5
               clear hI5 B5))
            | (go_at_call 12; go_must (
               first
               | (refine (len_any w _ A' m' lim _ HI5.out).mono ?_
                  rintro e w55 ⟨rfl, B6⟩
                  have HX55 := hidp (HX5.out.below B6)
                  have HE55 := hidp (HE5.out.below B6)
                  have HI55 := hidp (HI5.out.below B6)
                  clear B6)
               | (refine (len_any w _ A' m' lim _ HI55.out).mono ?_
                  rintro e w6 ⟨rfl, B6⟩
                  have HX6 := hidp (HX55.out.below B6)
                  have HE6 := hidp (HE55.out.below B6)
                  have HI6 := hidp (HI55.out.below B6)
                  clear B6)))
            | (go_at_call 13; go_must (
               refine (same13_refl w b7 b4 (entA A).length c7 c4 (entA A) _ HE7.out HE67.out (by have := HX7.out.keys; unfold entA; rw [List.length_map]; omega) HX7.out.bel).mono ?_
               rintro e w8 ⟨rfl, B8⟩
               have HX8 := hidp (HX7.out.below B8)
               have HI8 := hidp (HI7.out.below B8)
               clear B8)))
          go_roundw
          case rel => exact ⟨j + 1, _, A', m', by omega, rfl, by go_num, HX8.out.bel, HI8.out, HNX.out.1, HNX.out.2.1, HMO.out.1, HNX.out.2.2, HX8.out.la⟩
          case measure => simp [intOf]; omega
      · have l1 : ¬ (j : Int) < (n : Int) := by omega
        go_wp2_with (go_at_call 8; go_must (
          refine (awake_any _).mono ?_
          rintro e w2 ⟨rfl, B2⟩
          have H3 := hidp (HX.out.bel.trans (B2.mono HX.out.bel.size))
          clear B2))
        go_ret
        exact ⟨rfl, H3.out⟩
end Go.Proofs.Ytnenpfalhbbadaa
