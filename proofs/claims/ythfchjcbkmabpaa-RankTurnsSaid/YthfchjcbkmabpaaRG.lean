/- Those that are left behind a step: the document's Left. -/
import Derived.Test.YthfchjcbkmabpaaRF
namespace Go.Proofs.Ythfchjcbkmabpaa
open Go.RowKit

/-- does k let i stay? -/
def qP (K : Nat → Nat → Int) (Nr : Nat → Int) (s i k : Nat) : Bool := !(decide (s ≠ 4 ∨ Nr i = Nr k) && decide (K k (s - 1) < K i (s - 1)))
theorem leftP_eq (K : Nat → Nat → Int) (Nr : Nat → Int) (xs : List Nat) (s : Nat) : leftP K Nr xs s = xs.filter fun i => xs.all (qP K Nr s i) := rfl
theorem all_take {xs : List Nat} {k : Nat} (hk : k < xs.length) (p : Nat → Bool) : (xs.take (k + 1)).all p = ((xs.take k).all p && p xs[k]) := by
  rw [List.take_succ_eq_append_getElem hk, List.all_append]; simp
theorem filter_take {xs : List Nat} {k : Nat} (hk : k < xs.length) (p : Nat → Bool) : (xs.take (k + 1)).filter p = (xs.take k).filter p ++ (if p xs[k] = true then [xs[k]] else []) := by
  rw [List.take_succ_eq_append_getElem hk, List.filter_append, List.filter_cons, List.filter_nil]
theorem RowAt.ints {w : World} {v : Value} {xs : List Nat} (h : RowAt w 1 v xs.length (xs.map intv)) : ∃ a cap, v = .slice a xs.length cap ∧ (0 < xs.length → ∃ g o, a = some ⟨g, o, none⟩ ∧ ∀ j (hj : j < xs.length), w.cell? ⟨g, o + j, none⟩ = some (.int .i64 (xs[j] : Int))) := by
  obtain ⟨a, cap, rfl, h2⟩ := h.open1
  refine ⟨a, cap, rfl, fun hp => ?_⟩
  obtain ⟨g, o, e, h3⟩ := h2 hp
  refine ⟨g, o, e, fun j hj => ?_⟩
  rw [h3 j hj]
  simp [List.getD, hj, intv]

set_option maxRecDepth 100000 in
set_option maxHeartbeats 4000000 in
theorem left_any (L : List Cnd) (xs : List Nat) (s : Nat) (a : Option Addr) (n c : Nat) (v : Value) (w : World) (hL : CandsV w a n L) (hv : RowAt w 1 v xs.length (xs.map intv))
    (hx : ∀ i ∈ xs, i < n) (hxs : xs.length ≤ 1000) (hpl : ∀ c ∈ L, c.pl ≤ 1000000) (h1 : 1 ≤ s) (h8 : s ≤ 8) :
    Calls Try.prog 25 #[.slice a n c, v, .int .i64 s] w fun e w' => (∃ v', e = .returned v' ∧ OwnI w' w.heap.size v' (leftP (KL L) (NL L) xs s)) ∧ Below w.heap.size w w' := by
  rw [leftP_eq]
  obtain ⟨a2, c2, rfl, hr⟩ := hv.ints
  obtain ⟨Q, hQ⟩ : ∃ Q, Q = qP (KL L) (NL L) s := ⟨_, rfl⟩
  rw [← hQ]
  have HQ := hidp hQ
  have HX := hidp hx
  have HR := hidp hr
  have HL := hidp hL
  have HPL := hidp hpl
  have H8 := hidp (And.intro h1 h8)
  clear hx hr hL hv hpl hQ
  go_enter Try.func25, Try.ntmps25
  go_wp2
  go_loopw [7, 8] (fun x i wr => ∃ (j : Nat) (a : Option Addr) (m c : Nat), j ≤ xs.length ∧ i = .int .i64 j ∧ x = .slice a m c ∧ OwnI wr w.heap.size (.slice a m c) ((xs.take j).filter fun i => xs.all (Q i)) ∧ Below w.heap.size w wr) (fun _ i _ => xs.length - (intOf i).toNat)
  case atStart => exact ⟨0, _, _, _, by omega, rfl, rfl, OwnI.nil _ _, Below.refl _ _⟩
  case round =>
    obtain ⟨j, a1, m1, c1, hj, rfl, rfl, hO, hB⟩ := hrel
    obtain ⟨w1, rfl⟩ : ∃ w1, w1 = wr := ⟨_, rfl⟩
    have HO := hidp hO
    have HB := hidp hB
    clear hO hB
    by_cases hlt : j < xs.length
    · have l1 : (j : Int) < (xs.length : Int) := by omega
      have hft := filter_take hlt fun i => xs.all (Q i)
      obtain ⟨gi, oi, rfl, hci⟩ := HR.out (by omega)
      have hxi : xs[j] ∈ xs := List.getElem_mem hlt
      have hin := HX.out _ hxi
      have ci := hci j hlt
      generalize xs[j] = ix at *
      have HFT := hidp hft
      have HCI := hidp (And.intro ci hci)
      clear hft ci hci
      go_wp2
      go_loopw [9, 10] (fun st i wr => ∃ k : Nat, k ≤ xs.length ∧ i = .int .i64 k ∧ st = .bool ((xs.take k).all (Q ix)) ∧ Below w1.heap.size w1 wr) (fun _ i _ => xs.length - (intOf i).toNat)
      case atStart => exact ⟨0, by omega, rfl, rfl, Below.refl _ _⟩
      case round =>
        obtain ⟨k, hk, rfl, rfl, hB2⟩ := hrel
        obtain ⟨w2, rfl⟩ : ∃ w2, w2 = wr := ⟨_, rfl⟩
        have HB2 := hidp hB2
        clear hB2
        by_cases hlk : k < xs.length
        · have l2 : (k : Int) < (xs.length : Int) := by omega
          have hat := all_take hlk (Q ix)
          have hxk : xs[k] ∈ xs := List.getElem_mem hlk
          have hkn := HX.out _ hxk
          have hBw : Below w.heap.size w w2 := HB.out.trans (HB2.out.mono HB.out.size)
          have ci := below_cell hBw (Nat.le_refl _) _ _ HCI.out.1
          have ck := below_cell hBw (Nat.le_refl _) _ _ (HCI.out.2 k hlk)
          generalize xs[k] = kx at *
          obtain ⟨gl, ol, rfl, hnr⟩ := (HL.out.below hBw).near (by omega)
          have cni := hnr ix hin
          have cnk := hnr kx hkn
          have l3 : (ix : Int) < (n : Int) := by omega
          have l4 : (kx : Int) < (n : Int) := by omega
          obtain ⟨st, hst⟩ : ∃ st, st = (xs.take k).all (Q ix) := ⟨_, rfl⟩
          rw [← hst] at hat
          rw [← hst]
          have hq : Q ix kx = !(decide (s ≠ 4 ∨ NL L ix = NL L kx) && decide (KL L kx (s - 1) < KL L ix (s - 1))) := by rw [HQ.out]; rfl
          have HAT := hidp hat
          have HQQ := hidp hq
          have HBW := hidp hBw
          clear hat hq hst hnr hBw
          obtain ⟨al, hal⟩ : ∃ al, al = decide (s ≠ 4 ∨ NL L ix = NL L kx) := ⟨_, rfl⟩
          have HAL := hidp hal
          clear hal
          have l5 : (k : Int) < (xs.length : Int) := l2
          go_upto_region 9 with (fail)
          go_cut [11] (fun t11 wc => t11 = .bool al ∧ Below w2.heap.size w2 wc)
          case first =>
            by_cases h4 : s = 4
            · by_cases hz : NL L ix = NL L kx
              · have hz' : (NL L ix == NL L kx) = true := by simpa using hz
                have ha : al = true := by rw [HAL.out]; simp [hz]
                have hs4 : (s : Int) = 4 := by omega
                subst ha
                subst h4
                clear hz
                go_quiet (fail)
                go_wp2_with fail
                go_meet
                exact ⟨rfl, below_drewN (Below.refl _ _) _⟩
              · have hz' : (NL L ix == NL L kx) = false := by simpa using hz
                have ha : al = false := by rw [HAL.out]; simp [hz, h4]
                have hs4 : (s : Int) = 4 := by omega
                subst ha
                subst h4
                clear hz
                go_quiet (fail)
                go_wp2_with fail
                go_meet
                exact ⟨rfl, below_drewN (Below.refl _ _) _⟩
            · have hz' : ((s : Int) != 4) = true := by simp; omega
              have ha : al = true := by rw [HAL.out]; simp [h4]
              subst ha
              clear h4
              go_quiet (fail)
              go_wp2_with fail
              go_meet
              exact ⟨rfl, below_drewN (Below.refl _ _) _⟩
          case rest =>
            obtain ⟨rfl, hBc⟩ := hcut
            obtain ⟨w3, rfl⟩ : ∃ w3, w3 = wc := ⟨_, rfl⟩
            have hB3 : Below w1.heap.size w1 w3 := HB2.out.trans (hBc.mono HB2.out.size)
            have HB3 := hidp hB3
            clear hB3
            cases al with
            | false =>
              have hq : Q ix kx = true := by rw [HQQ.out, ← HAL.out]; rfl
              have HF := hidp (show (xs.take (k + 1)).all (Q ix) = st by rw [HAT.out, hq, Bool.and_true])
              clear hq hBc cni cnk ci ck
              go_wp2
              go_quiet (fail)
              go_wp2
              go_roundw
              case rel => exact ⟨k + 1, by omega, by go_num, by rw [HF.out], below_drewN HB3.out _⟩
              case measure => simp [intOf]; omega
            | true =>
              have e1 := below_cell hBc (Nat.le_refl _) _ _ ci
              have e2 := below_cell hBc (Nat.le_refl _) _ _ ck
              have hL3 := (HL.out.below HBW.out).below hBc
              obtain ⟨g', o', e', hrw⟩ := hL3.rows (by omega)
              cases e'
              have hLn := hL3.len
              have hrI := hrw ix (by omega)
              have hrK := hrw kx (by omega)
              have hmI := List.getElem_mem (l := L) (show ix < L.length by omega)
              have hmK := List.getElem_mem (l := L) (show kx < L.length by omega)
              have haI := hL3.ats _ hmI
              have haK := hL3.ats _ hmK
              have hpI := HPL.out _ hmI
              have hpK := HPL.out _ hmK
              have hkI : KL L ix = L[ix].key := by simp [KL, List.getD, show ix < L.length by omega]
              have hkK : KL L kx = L[kx].key := by simp [KL, List.getD, show kx < L.length by omega]
              have hq := HQQ.out
              rw [← HAL.out, hkI, hkK] at hq
              generalize L[ix] = cI at *
              generalize L[kx] = cK at *
              have HQ2 := hidp hq
              have E1 := hidp (show ∀ W, Below w3.heap.size w3 W → W.cell? ⟨gi, oi + j, none⟩ = some (.int .i64 (ix : Int)) from fun W hW => below_cell hW (Nat.le_refl _) _ _ e1)
              have E2 := hidp (show ∀ W, Below w3.heap.size w3 W → W.cell? ⟨gi, oi + k, none⟩ = some (.int .i64 (kx : Int)) from fun W hW => below_cell hW (Nat.le_refl _) _ _ e2)
              have RI := hidp (show ∀ W, Below w3.heap.size w3 W → W.rangeAt gl (ol + ix * 16) cI.cells from fun W hW j v hv => below_cell hW (Nat.le_refl _) _ _ (hrI j v hv))
              have RK := hidp (show ∀ W, Below w3.heap.size w3 W → W.rangeAt gl (ol + kx * 16) cK.cells from fun W hW j v hv => below_cell hW (Nat.le_refl _) _ _ (hrK j v hv))
              have AI := hidp (And.intro haI hpI)
              have AK := hidp (And.intro haK hpK)
              clear hq hkI hkK hpI hpK haI haK hmI hmK hrI hrK hrw hL3 e1 e2 ci ck cni cnk hBc hLn
              go_wp2
              refine wp_region_flow2 (fun iqv => ([(.bool true : Value), (.bool true : Value), (.slice (some ⟨gl, ol, none⟩) n c : Value), (.slice (some ⟨gi, oi, none⟩) xs.length c2 : Value), (.int .i64 k : Value), (.pointer (some ⟨gi, oi + k, none⟩) : Value), (.int .i64 kx : Value), (.pointer (some ⟨gl, ol + kx * 16, none⟩) : Value), (cK.val : Value), (.int .i64 s : Value), (.int .i64 (cK.key (s - 1)) : Value), (.slice (some ⟨gl, ol, none⟩) n c : Value), (.slice (some ⟨gi, oi, none⟩) xs.length c2 : Value), (.int .i64 j : Value), (.pointer (some ⟨gi, oi + j, none⟩) : Value), (.int .i64 ix : Value), (.pointer (some ⟨gl, ol + ix * 16, none⟩) : Value), (cI.val : Value), (.int .i64 s : Value), (.int .i64 (cI.key (s - 1)) : Value), (.bool (decide (cK.key (s - 1) < cI.key (s - 1))) : Value), (.bool (decide (cK.key (s - 1) < cI.key (s - 1))) : Value)] : List Value).getD iqv undef) [(some 45, .bool true), (some 46, .bool true), (some 47, .slice (some ⟨gl, ol, none⟩) n c), (some 48, .slice (some ⟨gi, oi, none⟩) xs.length c2), (some 49, .int .i64 k), (some 50, .pointer (some ⟨gi, oi + k, none⟩)), (some 51, .int .i64 kx), (some 52, .pointer (some ⟨gl, ol + kx * 16, none⟩)), (some 53, cK.val), (some 54, .int .i64 s), (some 55, .int .i64 (cK.key (s - 1))), (some 56, .slice (some ⟨gl, ol, none⟩) n c), (some 57, .slice (some ⟨gi, oi, none⟩) xs.length c2), (some 58, .int .i64 j), (some 59, .pointer (some ⟨gi, oi + j, none⟩)), (some 60, .int .i64 ix), (some 61, .pointer (some ⟨gl, ol + ix * 16, none⟩)), (some 62, cI.val), (some 63, .int .i64 s), (some 64, .int .i64 (cI.key (s - 1))), (some 65, .bool (decide (cK.key (s - 1) < cI.key (s - 1)))), (some 66, .bool (decide (cK.key (s - 1) < cI.key (s - 1))))] (fun W : World => Below w3.heap.size w3 W) (by kernel_rfl) (by kernel_rfl) ((Below.refl _ _).drew) (fun iq hiq => ?_) (by kernel_rfl) (fun W hSW => ?_)
              · match iq, hiq with
                | 0, _ =>
                  intro aq W hSW hf
                  have v11 := hf.at_base 11 (by kernel_rfl)
                  simp only [List.getElem?_toArray, List.getElem?_cons_succ, List.getElem?_cons_zero] at v11
                  clear hf
                  refine wpOp_flow rfl (by rfl) (fun Kq hK => ?_)
                  go_simp
                  exact hK _ _ ⟨rfl, hSW⟩
                | 1, _ =>
                  intro aq W hSW hf
                  have v45 : aq.tmps[45]? = some (.bool true) := hf.val 0 45 (by kernel_rfl) rfl
                  clear hf
                  refine wpOp_flow rfl (by rfl) (fun Kq hK => ?_)
                  go_simp
                  exact hK _ _ ⟨rfl, hSW⟩
                | 2, _ =>
                  intro aq W hSW hf
                  have v0 := hf.at_base 0 (by kernel_rfl)
                  simp only [List.getElem?_toArray, List.getElem?_cons_zero] at v0
                  have v46 : aq.tmps[46]? = some (.bool true) := hf.val 1 46 (by kernel_rfl) rfl
                  clear hf
                  refine wpOp_flow rfl (wanted_of rfl rfl v46) (fun Kq hK => ?_)
                  go_simp
                  exact hK _ _ ⟨rfl, hSW⟩
                | 3, _ =>
                  intro aq W hSW hf
                  have v1 := hf.at_base 1 (by kernel_rfl)
                  simp only [List.getElem?_toArray, List.getElem?_cons_succ, List.getElem?_cons_zero] at v1
                  have v46 : aq.tmps[46]? = some (.bool true) := hf.val 1 46 (by kernel_rfl) rfl
                  clear hf
                  refine wpOp_flow rfl (wanted_of rfl rfl v46) (fun Kq hK => ?_)
                  go_simp
                  exact hK _ _ ⟨rfl, hSW⟩
                | 4, _ =>
                  intro aq W hSW hf
                  have v10 := hf.at_base 10 (by kernel_rfl)
                  simp only [List.getElem?_toArray, List.getElem?_cons_succ, List.getElem?_cons_zero] at v10
                  have v46 : aq.tmps[46]? = some (.bool true) := hf.val 1 46 (by kernel_rfl) rfl
                  clear hf
                  refine wpOp_flow rfl (wanted_of rfl rfl v46) (fun Kq hK => ?_)
                  go_simp
                  exact hK _ _ ⟨rfl, hSW⟩
                | 5, _ =>
                  intro aq W hSW hf
                  have v46 : aq.tmps[46]? = some (.bool true) := hf.val 1 46 (by kernel_rfl) rfl
                  have v48 : aq.tmps[48]? = some (.slice (some ⟨gi, oi, none⟩) xs.length c2) := hf.val 3 48 (by kernel_rfl) rfl
                  have v49 : aq.tmps[49]? = some (.int .i64 k) := hf.val 4 49 (by kernel_rfl) rfl
                  clear hf
                  refine wpOp_flow rfl (wanted_of rfl rfl v46) (fun Kq hK => ?_)
                  go_simp
                  exact hK _ _ ⟨rfl, hSW⟩
                | 6, _ =>
                  intro aq W hSW hf
                  have v46 : aq.tmps[46]? = some (.bool true) := hf.val 1 46 (by kernel_rfl) rfl
                  have v50 : aq.tmps[50]? = some (.pointer (some ⟨gi, oi + k, none⟩)) := hf.val 5 50 (by kernel_rfl) rfl
                  clear hf
                  refine wpOp_flow rfl (wanted_of rfl rfl v46) (fun Kq hK => ?_)
                  have e2 := E2.out W hSW
                  go_simp
                  exact hK _ _ ⟨rfl, hSW⟩
                | 7, _ =>
                  intro aq W hSW hf
                  have v46 : aq.tmps[46]? = some (.bool true) := hf.val 1 46 (by kernel_rfl) rfl
                  have v47 : aq.tmps[47]? = some (.slice (some ⟨gl, ol, none⟩) n c) := hf.val 2 47 (by kernel_rfl) rfl
                  have v51 : aq.tmps[51]? = some (.int .i64 kx) := hf.val 6 51 (by kernel_rfl) rfl
                  clear hf
                  refine wpOp_flow rfl (wanted_of rfl rfl v46) (fun Kq hK => ?_)
                  go_simp
                  exact hK _ _ ⟨rfl, hSW⟩
                | 8, _ =>
                  intro aq W hSW hf
                  have v46 : aq.tmps[46]? = some (.bool true) := hf.val 1 46 (by kernel_rfl) rfl
                  have v52 : aq.tmps[52]? = some (.pointer (some ⟨gl, ol + kx * 16, none⟩)) := hf.val 7 52 (by kernel_rfl) rfl
                  clear hf
                  refine wpOp_flow rfl (wanted_of rfl rfl v46) (fun Kq hK => ?_)
                  refine wp_load_mid 34 (.tmp 52) rfl gl (ol + kx * 16) (eval_of v52) cK.cells _ (RK.out W hSW) Try.underlying34 rfl (by rw [Cnd.len]; exact Try.info34) (hK _ _ ⟨rfl, hSW⟩)
                | 9, _ =>
                  intro aq W hSW hf
                  have v2 := hf.at_base 2 (by kernel_rfl)
                  simp only [List.getElem?_toArray, List.getElem?_cons_succ, List.getElem?_cons_zero] at v2
                  have v46 : aq.tmps[46]? = some (.bool true) := hf.val 1 46 (by kernel_rfl) rfl
                  clear hf
                  refine wpOp_flow rfl (wanted_of rfl rfl v46) (fun Kq hK => ?_)
                  go_simp
                  exact hK _ _ ⟨rfl, hSW⟩
                | 10, _ =>
                  intro aq W hSW hf
                  have v46 : aq.tmps[46]? = some (.bool true) := hf.val 1 46 (by kernel_rfl) rfl
                  have v53 : aq.tmps[53]? = some (cK.val) := hf.val 8 53 (by kernel_rfl) rfl
                  have v54 : aq.tmps[54]? = some (.int .i64 s) := hf.val 9 54 (by kernel_rfl) rfl
                  clear hf
                  refine wpOp_flow rfl (wanted_of rfl rfl v46) (fun Kq hK => ?_)
                  go_simp
                  refine (number_any cK s _ (AK.out.1.below hSW) AK.out.2 H8.out.1 H8.out.2).mono ?_
                  rintro e w9 ⟨rfl, B9⟩
                  exact hK _ _ ⟨rfl, hSW.trans (B9.mono hSW.size)⟩
                | 11, _ =>
                  intro aq W hSW hf
                  have v0 := hf.at_base 0 (by kernel_rfl)
                  simp only [List.getElem?_toArray, List.getElem?_cons_zero] at v0
                  have v46 : aq.tmps[46]? = some (.bool true) := hf.val 1 46 (by kernel_rfl) rfl
                  clear hf
                  refine wpOp_flow rfl (wanted_of rfl rfl v46) (fun Kq hK => ?_)
                  go_simp
                  exact hK _ _ ⟨rfl, hSW⟩
                | 12, _ =>
                  intro aq W hSW hf
                  have v1 := hf.at_base 1 (by kernel_rfl)
                  simp only [List.getElem?_toArray, List.getElem?_cons_succ, List.getElem?_cons_zero] at v1
                  have v46 : aq.tmps[46]? = some (.bool true) := hf.val 1 46 (by kernel_rfl) rfl
                  clear hf
                  refine wpOp_flow rfl (wanted_of rfl rfl v46) (fun Kq hK => ?_)
                  go_simp
                  exact hK _ _ ⟨rfl, hSW⟩
                | 13, _ =>
                  intro aq W hSW hf
                  have v8 := hf.at_base 8 (by kernel_rfl)
                  simp only [List.getElem?_toArray, List.getElem?_cons_succ, List.getElem?_cons_zero] at v8
                  have v46 : aq.tmps[46]? = some (.bool true) := hf.val 1 46 (by kernel_rfl) rfl
                  clear hf
                  refine wpOp_flow rfl (wanted_of rfl rfl v46) (fun Kq hK => ?_)
                  go_simp
                  exact hK _ _ ⟨rfl, hSW⟩
                | 14, _ =>
                  intro aq W hSW hf
                  have v46 : aq.tmps[46]? = some (.bool true) := hf.val 1 46 (by kernel_rfl) rfl
                  have v57 : aq.tmps[57]? = some (.slice (some ⟨gi, oi, none⟩) xs.length c2) := hf.val 12 57 (by kernel_rfl) rfl
                  have v58 : aq.tmps[58]? = some (.int .i64 j) := hf.val 13 58 (by kernel_rfl) rfl
                  clear hf
                  refine wpOp_flow rfl (wanted_of rfl rfl v46) (fun Kq hK => ?_)
                  go_simp
                  exact hK _ _ ⟨rfl, hSW⟩
                | 15, _ =>
                  intro aq W hSW hf
                  have v46 : aq.tmps[46]? = some (.bool true) := hf.val 1 46 (by kernel_rfl) rfl
                  have v59 : aq.tmps[59]? = some (.pointer (some ⟨gi, oi + j, none⟩)) := hf.val 14 59 (by kernel_rfl) rfl
                  clear hf
                  refine wpOp_flow rfl (wanted_of rfl rfl v46) (fun Kq hK => ?_)
                  have e1 := E1.out W hSW
                  go_simp
                  exact hK _ _ ⟨rfl, hSW⟩
                | 16, _ =>
                  intro aq W hSW hf
                  have v46 : aq.tmps[46]? = some (.bool true) := hf.val 1 46 (by kernel_rfl) rfl
                  have v56 : aq.tmps[56]? = some (.slice (some ⟨gl, ol, none⟩) n c) := hf.val 11 56 (by kernel_rfl) rfl
                  have v60 : aq.tmps[60]? = some (.int .i64 ix) := hf.val 15 60 (by kernel_rfl) rfl
                  clear hf
                  refine wpOp_flow rfl (wanted_of rfl rfl v46) (fun Kq hK => ?_)
                  go_simp
                  exact hK _ _ ⟨rfl, hSW⟩
                | 17, _ =>
                  intro aq W hSW hf
                  have v46 : aq.tmps[46]? = some (.bool true) := hf.val 1 46 (by kernel_rfl) rfl
                  have v61 : aq.tmps[61]? = some (.pointer (some ⟨gl, ol + ix * 16, none⟩)) := hf.val 16 61 (by kernel_rfl) rfl
                  clear hf
                  refine wpOp_flow rfl (wanted_of rfl rfl v46) (fun Kq hK => ?_)
                  refine wp_load_mid 34 (.tmp 61) rfl gl (ol + ix * 16) (eval_of v61) cI.cells _ (RI.out W hSW) Try.underlying34 rfl (by rw [Cnd.len]; exact Try.info34) (hK _ _ ⟨rfl, hSW⟩)
                | 18, _ =>
                  intro aq W hSW hf
                  have v2 := hf.at_base 2 (by kernel_rfl)
                  simp only [List.getElem?_toArray, List.getElem?_cons_succ, List.getElem?_cons_zero] at v2
                  have v46 : aq.tmps[46]? = some (.bool true) := hf.val 1 46 (by kernel_rfl) rfl
                  clear hf
                  refine wpOp_flow rfl (wanted_of rfl rfl v46) (fun Kq hK => ?_)
                  go_simp
                  exact hK _ _ ⟨rfl, hSW⟩
                | 19, _ =>
                  intro aq W hSW hf
                  have v46 : aq.tmps[46]? = some (.bool true) := hf.val 1 46 (by kernel_rfl) rfl
                  have v62 : aq.tmps[62]? = some (cI.val) := hf.val 17 62 (by kernel_rfl) rfl
                  have v63 : aq.tmps[63]? = some (.int .i64 s) := hf.val 18 63 (by kernel_rfl) rfl
                  clear hf
                  refine wpOp_flow rfl (wanted_of rfl rfl v46) (fun Kq hK => ?_)
                  go_simp
                  refine (number_any cI s _ (AI.out.1.below hSW) AI.out.2 H8.out.1 H8.out.2).mono ?_
                  rintro e w9 ⟨rfl, B9⟩
                  exact hK _ _ ⟨rfl, hSW.trans (B9.mono hSW.size)⟩
                | 20, _ =>
                  intro aq W hSW hf
                  have v46 : aq.tmps[46]? = some (.bool true) := hf.val 1 46 (by kernel_rfl) rfl
                  have v55 : aq.tmps[55]? = some (.int .i64 (cK.key (s - 1))) := hf.val 10 55 (by kernel_rfl) rfl
                  have v64 : aq.tmps[64]? = some (.int .i64 (cI.key (s - 1))) := hf.val 19 64 (by kernel_rfl) rfl
                  clear hf
                  refine wpOp_flow rfl (wanted_of rfl rfl v46) (fun Kq hK => ?_)
                  go_simp
                  exact hK _ _ ⟨rfl, hSW⟩
                | 21, _ =>
                  intro aq W hSW hf
                  have v46 : aq.tmps[46]? = some (.bool true) := hf.val 1 46 (by kernel_rfl) rfl
                  have v65 : aq.tmps[65]? = some (.bool (decide (cK.key (s - 1) < cI.key (s - 1)))) := hf.val 20 65 (by kernel_rfl) rfl
                  clear hf
                  refine wpOp_flow rfl (by rfl) (fun Kq hK => ?_)
                  go_simp
                  exact hK _ _ ⟨rfl, hSW⟩
                | kq + 22, hk => exact absurd hk (by first | omega | (intro h; simp at h; omega))
              · simp only [puts, Act.put, List.setIfInBounds_toArray, List.set_cons_zero, List.set_cons_succ]
                have hq := HQ2.out
                generalize cK.key (s - 1) = nk at *
                generalize cI.key (s - 1) = ni at *
                clear HQ2 HQQ E1 E2 RI RK AI AK
                have HB4 := hidp (HB3.out.trans (hSW.mono HB3.out.size))
                clear hSW HAL
                by_cases hn : nk < ni
                · have HF := hidp (show (xs.take (k + 1)).all (Q ix) = false by rw [HAT.out, hq]; simp [hn])
                  clear hq
                  go_wp2
                  go_roundw
                  case rel => exact ⟨k + 1, by omega, by go_num, by rw [HF.out], HB4.out⟩
                  case measure => simp [intOf]; omega
                · have HF := hidp (show (xs.take (k + 1)).all (Q ix) = st by rw [HAT.out, hq]; simp [hn])
                  clear hq
                  go_wp2
                  go_roundw
                  case rel => exact ⟨k + 1, by omega, by go_num, by rw [HF.out], HB4.out⟩
                  case measure => simp [intOf]; omega
        · have l2 : ¬ (k : Int) < (xs.length : Int) := by omega
          obtain rfl : k = xs.length := by omega
          rw [List.take_length]
          have hB3 : Below w.heap.size w w2 := HB.out.trans (HB2.out.mono HB.out.size)
          have hO2 := HO.out.below HB2.out
          have hm : ((xs.take j).filter fun i => xs.all (Q i)).length = m1 := by
            obtain ⟨a', c', e⟩ := hO2.slice
            cases e
            rfl
          have hml : m1 ≤ 1000 := by
            rw [← hm]
            have h1 := List.length_filter_le (fun i => xs.all (Q i)) (xs.take j)
            have h2 := List.length_take_le j xs
            omega
          have ci := below_cell hB3 (Nat.le_refl _) _ _ HCI.out.1
          have HO2 := hidp hO2
          have HB3 := hidp hB3
          have HM := hidp hm
          clear hO2 hB3 hm hk hlk
          cases hall : xs.all (Q ix) with
          | false =>
            rw [hall] at HFT
            have HF := hidp (show (xs.take (j + 1)).filter (fun i => xs.all (Q i)) = (xs.take j).filter fun i => xs.all (Q i) by rw [HFT.out]; simp)
            clear hall
            go_wp2
            go_roundw
            case rel => exact ⟨j + 1, a1, m1, c1, by omega, by go_num, rfl, by rw [HF.out]; exact HO2.out, HB3.out⟩
            case measure => simp [intOf]; omega
          | true =>
            rw [hall] at HFT
            have HF := hidp (show (xs.take (j + 1)).filter (fun i => xs.all (Q i)) = ((xs.take j).filter fun i => xs.all (Q i)) ++ [ix] by rw [HFT.out]; simp)
            clear hall
            go_wp2_with (first
              | (at_builtin
                 refine wpList_appI w w2 rfl (.tmp 68) (.tmp 73) rfl w.heap.size a1 m1 c1 _ rfl HO2.out ix rfl (by rw [HM.out]; exact hml) HB3.out HB3.out.size ?_
                 intro v' w' h1 h2
                 have H1 := hidp (And.intro h1 h2)
                 clear h1 h2))
            go_roundw
            case rel =>
              obtain ⟨a', c', e⟩ := H1.out.1.slice
              have h1 := H1.out.1
              rw [e] at h1
              rw [← HF.out] at h1 e
              exact ⟨j + 1, a', _, c', by omega, by go_num, e, h1, H1.out.2⟩
            case measure => simp [intOf]; omega
    · have l1 : ¬ (j : Int) < (xs.length : Int) := by omega
      obtain rfl : j = xs.length := by omega
      rw [List.take_length] at HO
      go_wp2
      go_ret
      exact ⟨⟨_, rfl, HO.out⟩, HB.out⟩
end Go.Proofs.Ythfchjcbkmabpaa
