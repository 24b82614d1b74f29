/- The law RibinPlays. -/
import Derived.Test.YtnenpfalhbbadaaVC
import Derived.Test.YtnenpfalhbbadaaVD
namespace Go.Proofs.Ytnenpfalhbbadaa
open Go.RowKit

theorem ent_len (A : Ab) : (entA A).length = (keysA A).length := by unfold entA; rw [List.length_map]
/-- the routes behind some updates, the document's list of them, the updates -/
structure YX (w : World) (x : Option Addr) (A : Ab) (m lim : Int) (L : List Upd) (a : Option Addr) (n : Nat) (j : Nat) (y : Option Addr) (k : Nat) (W : World) : Prop where
  bel : Below w.heap.size w W
  inx : InAt w W x A m lim
  wf : WF A
  cnt : m = ((entA A).length : Int)
  few : (keysA A).length ≤ 30 * j
  la : UpdsV W a n L
  y : EnsV w W y k (entA A)
theorem YX.below {w W W' : World} {x : Option Addr} {A : Ab} {m lim : Int} {L : List Upd} {a : Option Addr} {n j : Nat} {y : Option Addr} {k : Nat} (h : YX w x A m lim L a n j y k W) (hB : Below W.heap.size W W') : YX w x A m lim L a n j y k W' :=
  ⟨h.bel.trans (hB.mono h.bel.size), h.inx.below hB, h.wf, h.cnt, h.few, h.la.below hB, h.y.below hB⟩
theorem entries_in {w W : World} {x : Option Addr} {A : Ab} {m lim : Int} (hi : InAt w W x A m lim) (hw : WF A) (hk : (keysA A).length ≤ 1000) :
    Calls Try.prog 10 #[.pointer x] W fun e W' => EnE w (entA A) e W' ∧ Below W.heap.size W W' := by
  refine (entries_any w x A m lim W hi (root_wf hw) hk).mono ?_
  rintro e W' ⟨⟨v, rfl, hv⟩, hB⟩
  exact ⟨EnE.of_own hv (ents_ok hi), hB⟩
set_option maxRecDepth 100000 in
set_option maxHeartbeats 16000000 in
theorem lawPlays_any (lim0 : Int) (L : List Upd) (a : Option Addr) (n c : Nat) (w : World) (hL : UpdsV w a n L) : Calls Try.prog 6 #[.int .i64 lim0, .slice a n c] w fun e w' => e = .returned (.bool true) ∧ Below w.heap.size w w' := by
  have HL := hidp hL
  clear hL
  go_enter Try.func6, Try.ntmps6
  go_wp2_with fail
  refine (few7 L a n c 16 _ HL.out (by decide)).mono ?_
  rintro e w1 ⟨⟨bf, rfl, hbf⟩, B1⟩
  have HB1 := hidp B1
  have HL1 := hidp (HL.out.below B1)
  have HBF := hidp hbf
  clear B1 hbf
  cases bf with
  | false =>
    clear HBF
    go_wp2_with (go_at_call 8; go_must (
      refine (awake_any _).mono ?_
      rintro e w2 ⟨rfl, B2⟩
      have H3 := hidp (HB1.out.trans (B2.mono HB1.out.size))
      clear B2))
    go_ret
    exact ⟨rfl, H3.out⟩
  | true =>
    have HF := hidp (HBF.out rfl)
    clear HBF
    go_wp2_with fail
    refine (new_any w lim0 _).mono ?_
    rintro e w3 ⟨⟨b, rfl, -, hI⟩, B3⟩
    obtain ⟨lm, hlm⟩ : ∃ lm : Int, (if lim0 < 0 then 0 else lim0) = lm := ⟨_, rfl⟩
    rw [hlm] at hI
    have HX := hidp (YX.mk (j := 0) (y := none) (k := 0) (HB1.out.trans (B3.mono HB1.out.size)) hI trivial rfl (Nat.le_refl _) (HL1.out.below B3) ⟨RowV.nil _ _, rfl, fun e he => by cases he⟩)
    clear hI B3
    go_upto_if 22 with (fail)
    go_cut [7] from 8 (fun v wx => v = .int .i64 lm ∧ wx = w3)
    case first =>
      by_cases hneg : lim0 < 0
      · rw [if_pos hneg] at hlm
        subst hlm
        go_wp2
        go_meet
        exact ⟨rfl, rfl⟩
      · rw [if_neg hneg] at hlm
        subst hlm
        go_wp2
        go_meet
        exact ⟨rfl, rfl⟩
    obtain ⟨rfl, rfl⟩ := hcut
    clear hlm
    go_wp2
    go_loopw [5, 6, 8] (fun x yv i wr => ∃ (j : Nat) (x' : Option Addr) (A : Ab) (m : Int) (y : Option Addr) (k cy : Nat), j ≤ n ∧ x = .pointer x' ∧ yv = .slice y k cy ∧ i = .int .i64 (j : Int) ∧ Hid (YX w x' A m lm L a n j y k wr)) (fun _ _ i _ => n - (intOf i).toNat)
    case atStart => exact ⟨0, _, .nil, 0, none, 0, 0, by omega, rfl, rfl, rfl, HX.out⟩
    case round =>
      clear HX
      obtain ⟨j, x', A, m, y, k, cy, hj, rfl, rfl, rfl, HX⟩ := hrel
      have hn16 : n ≤ 16 := HF.out.1
      by_cases hlt : j < n
      · have l1 : (j : Int) < (n : Int) := by omega
        obtain ⟨g, o, eg, hrw⟩ := HX.out.la.row (by omega)
        have hjl : j < L.length := by rw [HX.out.la.2.1]; exact hlt
        have hr := hrw j hjl
        have hat := HX.out.la.2.2 _ (List.getElem_mem hjl)
        have hat0 := HL.out.2.2 _ (List.getElem_mem hjl)
        have hfu := (HF.out.2 _ (List.getElem_mem hjl)).2
        generalize L[j] = v at *
        have hul := upd_len hat
        have hku := keys_upd A m lm v
        have hkl := HX.out.few
        have hel := ent_len A
        have hyl := HX.out.y.len
        have hcn := HX.out.cnt
        have hrf := upd_ref A m lm v HX.out.wf HX.out.cnt hat.news.2.2
        have hch : chgR (entA A) (entA (updA A m lm v).1) = diffL (otherA A (updA A m lm v).1) (v.gone ++ v.news) := chg_ref A _ _ HX.out.wf hrf.2.2 fun p hp => (updA_facts A m lm v p HX.out.wf hat.news.2.2).same hp
        have hdl := diffL_len (otherA A (updA A m lm v).1) (v.gone ++ v.news)
        rw [List.length_append] at hdl
        have HU := hidp (fun W (hW : YX w x' A m lm L a n j y k W) (hv : v.at W) => update_any same45_any w x' A m lm v W hW.inx hv hat0.att hW.bel (by omega) (by omega) (by omega) (by omega))
        have HV := hidp (fun W (hW : YX w x' A m lm L a n j y k W) (hv : v.at W) => upd16_any w y k cy (entA A) v lm W hW.y hv hat0.att (by omega) (by omega))
        obtain ⟨A', m', ov, hup2⟩ : ∃ A' m' ov, updA A m lm v = (A', m', ov) := ⟨_, _, _, rfl⟩
        rw [hup2] at hrf hch hdl HU hku
        rw [hrf.1] at HV
        simp only at hrf hch hdl hku
        have hel' := ent_len A'
        have HNX := hidp (show WF A' ∧ m' = ((entA A').length : Int) ∧ (keysA A').length ≤ 30 * (j + 1) from ⟨hrf.2.2, hrf.2.1, by omega⟩)
        have HEN := hidp (fun W (hI : InAt w W (some ⟨0, 0, none⟩) A' m' lm) => hI)
        have HEI := hidp (fun x2 W (hI : InAt w W x2 A' m' lm) => entries_in hI hrf.2.2 (by omega))
        have HCH := hidp (fun b5 k5 c5 W (h1 : YX w x' A m lm L a n j y k W) (h2 : EnsV w W b5 k5 (entA A')) => chg16_any w y b5 k k5 cy c5 (entA A) (entA A') W h1.y h2 (by have := h2.len; omega) h1.bel)
        rw [hch] at HCH
        unfold UpdE at HU
        simp only at HU
        generalize diffL (otherA A A') (v.gone ++ v.news) = D at HU HCH hdl
        have HDL := hidp (show D.length ≤ 1000 by omega)
        have HEL := hidp (show (entA A').length ≤ 1000 by omega)
        have hvv : v.val = .agg v.cells.toArray := rfl
        have hiv : Hid ((Try.prog.info? 39).map (·.size) = some v.cells.length) := Try.info39
        rw [hvv] at HU HV
        have HR := hidp hr
        have HAT := hidp hat
        have hmm : m' = ((entA A').length : Int) := HNX.out.2.1
        subst eg
        generalize hle : (entA A').length = le at *
        clear hrw hr hat hat0 hfu hul hku hkl hel hyl hcn hrf hch hdl hup2 hvv hjl HEN hel'
        go_wp2_with (first
          | (with_reducible refine wpList_load_mid rfl 39 (.tmp 33) rfl g (o + j * 13) rfl v.cells _ HR.out Try.underlying39 rfl hiv.out ?_)
          | (go_at_call 11; go_must (
             refine (HU.out _ HX.out HAT.out).mono ?_
             rintro e w5 ⟨⟨b5, a5, c5, rfl, hI5, hP5⟩, B5⟩
             have HX5 := hidp (HX.out.below B5)
             have HR5 := hidp (show w5.rangeAt g (o + j * 13) v.cells from fun i z hz => below_cell B5 (Nat.le_refl _) _ _ (HR.out i z hz))
             have HA5 := hidp (HAT.out.below B5)
             have HI5 := hidp hI5
             have HP5 := hidp hP5
             clear hI5 hP5 B5))
          | (with_reducible refine wpList_load_mid rfl 39 (.tmp 43) rfl g (o + j * 13) rfl v.cells _ HR5.out Try.underlying39 rfl hiv.out ?_)
          | (go_at_call 15; go_must (
             refine (HV.out _ HX5.out HA5.out).mono ?_
             rintro e w6 ⟨⟨a6, c6, rfl, hE6⟩, B6⟩
             have HX6 := hidp (HX5.out.below B6)
             have HI6 := hidp (HI5.out.below B6)
             have HP6 := hidp (HP5.out.below B6)
             have HE6 := hidp (show EnsV w w6 a6 le (entA A') by rw [← hle]; exact hE6)
             clear hE6 B6))
          | (go_at_call 23; go_must (
             refine (HCH.out _ _ c6 _ HX6.out HE6.out).mono ?_
             rintro e w7 ⟨⟨a7, c7, rfl, hP7⟩, B7⟩
             have HX7 := hidp (HX6.out.below B7)
             have HI7 := hidp (HI6.out.below B7)
             have HP67 := hidp (HP6.out.below B7)
             have HE7 := hidp (HE6.out.below B7)
             have HP7 := hidp hP7
             clear hP7 B7))
          | (go_at_call 22; go_must (
             refine (same22_refl a5 a7 D.length c5 c7 D _ HP67.out HP7.out HDL.out).mono ?_
             rintro e w8 ⟨rfl, B8⟩
             have HX8 := hidp (HX7.out.below B8)
             have HI8 := hidp (HI7.out.below B8)
             have HE8 := hidp (HE7.out.below B8)
             clear B8))
          | (go_at_call 10; go_must (
             refine (HEI.out _ _ HI8.out).mono ?_
             rintro e w9 ⟨⟨a9, c9, rfl, hE9⟩, B9⟩
             have HX9 := hidp (HX8.out.below B9)
             have HI9 := hidp (HI8.out.below B9)
             have HE89 := hidp (HE8.out.below B9)
             have HE9 := hidp (show EnsV w w9 a9 le (entA A') by rw [← hle]; exact hE9)
             clear hE9 B9))
          | (go_at_call 13; go_must (
             refine (same13_refl w a9 a6 le c9 c6 (entA A') _ HE9.out HE89.out HEL.out HX9.out.bel).mono ?_
             rintro e w10 ⟨rfl, B10⟩
             have HX10 := hidp (HX9.out.below B10)
             have HI10 := hidp (HI9.out.below B10)
             have HE10 := hidp (HE89.out.below B10)
             clear B10))
          | (go_at_call 12; go_must (
             refine (len_any w _ A' m' lm _ HI10.out).mono ?_
             rintro e w11 ⟨rfl, B11⟩
             have HX11 := hidp (HX10.out.below B11)
             have HI11 := hidp (HI10.out.below B11)
             have HE11 := hidp (HE10.out.below B11)
             clear B11)))
        go_roundw
        case rel => exact ⟨j + 1, _, A', m', a6, _, c6, by omega, rfl, rfl, by go_num, HX11.out.bel, HI11.out, HNX.out.1, by rw [hle]; exact HNX.out.2.1, HNX.out.2.2, HX11.out.la, HE11.out⟩
        case measure => simp [intOf]; omega
      · have l1 : ¬ (j : Int) < (n : Int) := by omega
        go_wp2_with (first
          | (go_at_call 17; go_must (
             refine (limit_any w x' A m lm _ HX.out.inx).mono ?_
             rintro e w9 ⟨rfl, h9⟩
             rw [h9]
             clear h9))
          | (go_at_call 8; go_must (
             refine (awake_any _).mono ?_
             rintro e w2 ⟨rfl, B2⟩
             have H3 := hidp (HX.out.bel.trans (B2.mono HX.out.bel.size))
             clear B2)))
        go_ret
        exact ⟨rfl, H3.out⟩
end Go.Proofs.Ytnenpfalhbbadaa
