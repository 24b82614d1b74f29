/- The law VersionPlays answers true, whatever the acts and the number. -/
import Derived.Test.YtacnphokgggmdaaVI
import Derived.Test.YtacnphokgggmdaaAwake
import Derived.Test.YtacnphokgggmdaaPinv
import Derived.Test.YtacnphokgggmdaaLawBounds
import Derived.Deep.RegionHeld3
import Derived.Deep.DeepCutAuto
import Derived.Deep.CutBlock
namespace Go.Proofs.Ytacnphokgggmdaa
open Go.RowKit

theorem ref_frame2 {w w' : World} {b mb base r : Nat} {s : St} {v u : Value} {A Q : List Int} (h : RefIs w base r v u A Q) (S : I.StoreIs w b mb s) (F : Frame2 b mb w w') : RefIs w' base r v u A Q :=
  h.of_heap fun k c e hk he => F.block k (ltOf hk) (by rintro rfl; rw [S.blk] at hk; cases hk; rcases he with he | he <;> exact absurd he (by decide)) (by rintro rfl; obtain ⟨es, clock, hb, _⟩ := S.map; rw [hb] at hk; cases hk)
theorem store_ref {w w' : World} {b mb base : Nat} {s : St} (S : I.StoreIs w b mb s) (F : RefFrame base w w') : I.StoreIs w' b mb s := by
  obtain ⟨es, clock, hb, r⟩ := S.map
  exact ⟨F.block b _ S.blk (.inr rfl), ⟨es, clock, F.block mb _ hb (.inr rfl), r⟩⟩

/-- what a round of the law carries -/
structure PRel (w : World) (b mb r k : Nat) (v u : Value) (A Q : List Int) (s : St) (wr : World) : Prop where
  inv : PInv s A Q k
  lenb : A.length ≤ k + 1
  store : I.StoreIs wr b mb s
  ref : RefIs wr w.heap.size r v u A Q
  below : Below w.heap.size w wr

theorem RefIs.drew {w : World} {base r : Nat} {v u : Value} {A Q : List Int} (h : RefIs w base r v u A Q) : RefIs w.drew base r v u A Q := h.below (Below.refl _ _).drew (Nat.le_refl _)
theorem PRel.drew {w wr : World} {b mb r k : Nat} {v u : Value} {A Q : List Int} {s : St} (R : PRel w b mb r k v u A Q s wr) : PRel w b mb r k v u A Q s wr.drew := ⟨R.inv, R.lenb, R.store.drew, R.ref.drew, R.below.drew⟩
/-- the store has gone ahead by one act, the reference has not yet -/
structure PHalf (w : World) (b mb r k : Nat) (v u : Value) (A Q A' Q' : List Int) (s' : St) (wr : World) : Prop where
  inv : PInv s' A' Q' ((k : Int) + 1)
  lenb : A'.length ≤ k + 2
  lena : A.length ≤ k + 1
  rng : ∀ q ∈ Q, 0 ≤ q ∧ q ≤ (k : Int)
  store : I.StoreIs wr b mb s'
  ref : RefIs wr w.heap.size r v u A Q
  below : Below w.heap.size w wr
theorem PHalf.drew {w wr : World} {b mb r k : Nat} {v u : Value} {A Q A' Q' : List Int} {s' : St} (R : PHalf w b mb r k v u A Q A' Q' s' wr) : PHalf w b mb r k v u A Q A' Q' s' wr.drew := ⟨R.inv, R.lenb, R.lena, R.rng, R.store.drew, R.ref.drew, R.below.drew⟩
theorem PRel.half {w wr w2 : World} {b mb r k : Nat} {v u : Value} {A Q A' Q' : List Int} {s s' : St} (R : PRel w b mb r k v u A Q s wr) (hb : w.heap.size ≤ b) (hmb : w.heap.size ≤ mb)
    (I' : PInv s' A' Q' ((k : Int) + 1)) (hl : A'.length ≤ k + 2) (S : I.StoreIs w2 b mb s') (F : Frame2 b mb wr w2) : PHalf w b mb r k v u A Q A' Q' s' w2 :=
  ⟨I', hl, R.lenb, R.inv.rng, S, ref_frame2 R.ref R.store F, R.below.trans (F.below R.below.size hb hmb)⟩
theorem PHalf.full {w w2 w3 : World} {b mb r k : Nat} {v u v' u' : Value} {A Q A' Q' : List Int} {s' : St} (R : PHalf w b mb r k v u A Q A' Q' s' w2)
    (R3 : RefIs w3 w.heap.size r v' u' A' Q') (F3 : RefFrame w.heap.size w2 w3) : PRel w b mb r (k + 1) v' u' A' Q' s' w3 :=
  ⟨R.inv, R.lenb, store_ref R.store F3, R3, R.below.trans (F3.below R.below.size)⟩
theorem PRel.commit {w wr w2 : World} {b mb r k : Nat} {v u : Value} {A Q : List Int} {s : St} (R : PRel w b mb r k v u A Q s wr) (hb : w.heap.size ≤ b) (hmb : w.heap.size ≤ mb) (x : Int)
    (S : I.StoreIs w2 b mb (s.commit (.int .i64 x))) (F : Frame2 b mb wr w2) : PHalf w b mb r k v u A Q (A ++ [x]) (Q ++ [0]) (s.commit (.int .i64 x)) w2 :=
  R.half hb hmb ((R.inv.commit (by omega) x).mono (by omega)) (by have := R.lenb; simp; omega) S F
theorem PRel.pin {w wr w2 : World} {b mb r k : Nat} {v u : Value} {A Q : List Int} {s : St} (R : PRel w b mb r k v u A Q s wr) (hb : w.heap.size ≤ b) (hmb : w.heap.size ≤ mb)
    (S : I.StoreIs w2 b mb (s.pin (.int .i64 0))) (F : Frame2 b mb wr w2) : PHalf w b mb r k v u A Q A (Q.set (A.length - 1) (Q.getD (A.length - 1) 0 + 1)) (s.pin (.int .i64 0)) w2 :=
  R.half hb hmb R.inv.pin (by have := R.lenb; omega) S F
theorem PRel.release {w wr w2 : World} {b mb r k : Nat} {v u : Value} {A Q : List Int} {s : St} (R : PRel w b mb r k v u A Q s wr) (hb : w.heap.size ≤ b) (hmb : w.heap.size ≤ mb) (j : Nat) (hj : j < A.length) (hq : 0 < Q.getD j 0)
    (S : I.StoreIs w2 b mb (s.release (.int .i64 0) j)) (F : Frame2 b mb wr w2) : PHalf w b mb r k v u A Q A (Q.set j (Q.getD j 0 - 1)) (s.release (.int .i64 0) j) w2 :=
  R.half hb hmb ((R.inv.release j hj hq).mono (by omega)) (by have := R.lenb; omega) S F
theorem PRel.stay {w wr : World} {b mb r k : Nat} {v u : Value} {A Q : List Int} {s : St} (R : PRel w b mb r k v u A Q s wr) : PRel w b mb r (k + 1) v u A Q s wr :=
  ⟨R.inv.mono (by omega), by have := R.lenb; omega, R.store, R.ref, R.below⟩

theorem at_P {b mb : Nat} {s : St} {A Q : List Int} {N : Int} (P : PInv s A Q N) (k : Int) (w : World) (h : I.StoreIs w b mb s) :
    Calls Try.prog 12 #[.pointer (some ⟨b, 0, none⟩), .int .i64 k] w fun e w' => e = .returned (.tuple #[.int .i64 (rAt A Q k).1, .bool (rAt A Q k).2]) ∧ Below w.heap.size w w' := by
  refine (I.at_yes b mb s k w h ⟨_, (P.at_ k).1⟩).mono fun e w' ⟨he, h1⟩ => ⟨?_, h1⟩
  rw [he, (P.at_ k).1, (P.at_ k).2]
theorem head_P {b mb m : Nat} {s : St} {A Q : List Int} {N : Int} (P : PInv s A Q N) (hm : A.length = m + 1) (w : World) (h : I.StoreIs w b mb s) :
    Calls Try.prog 20 #[.pointer (some ⟨b, 0, none⟩)] w fun e w' => e = .returned (.tuple #[.int .i64 m, .int .i64 (A.getD m 0)]) ∧ Below w.heap.size w w' := by
  have hh := P.head
  refine (I.head_yes b mb s w h ⟨_, (P.at_ _).1⟩).mono fun e w' ⟨he, h1⟩ => ⟨?_, h1⟩
  rw [he, (P.at_ _).1, P.rHead, hh, hm, show ((m + 1 : Nat) : Int) - 1 = m by omega, show m + 1 - 1 = m by omega]
theorem live_P {b mb : Nat} {s : St} {A Q : List Int} {N : Int} (P : PInv s A Q N) (w : World) (h : I.StoreIs w b mb s) :
    Calls Try.prog 11 #[.pointer (some ⟨b, 0, none⟩)] w fun e w' => e = .returned (.int .i64 (rCnt A.length Q A.length)) ∧ w = w' := by
  refine (I.live_yes b mb s w h).mono fun e w' ⟨he, h1⟩ => ⟨?_, h1⟩
  rw [he, P.n]; rfl
theorem PRel.later {w wr w' : World} {b mb r k : Nat} {v u : Value} {A Q : List Int} {s : St} (R : PRel w b mb r k v u A Q s wr) (h : Below wr.heap.size wr w') : PRel w b mb r k v u A Q s w' :=
  ⟨R.inv, R.lenb, R.store.below h (Nat.le_refl _), R.ref.below h (Nat.le_refl _), R.below.trans (h.mono R.below.size)⟩
theorem keepP {w W : World} {a : Addr} {v : Value} (h : Hid (w.cell? a = some v)) (_ : a.block < w.heap.size) (hB : Below w.heap.size w W) : W.cell? a = some v ∧ Below w.heap.size w W :=
  ⟨below_cell hB (Nat.le_refl _) _ _ h.out, hB⟩
theorem commit_P {b mb : Nat} {s : St} {A Q : List Int} {N : Int} (P : PInv s A Q N) (x : Int) (w : World) (h : I.StoreIs w b mb s) (hA : A.length ≤ 1000) :
    Calls Try.prog 8 #[.pointer (some ⟨b, 0, none⟩), .int .i64 x] w fun e w' => e = .returned (.int .i64 A.length) ∧ I.StoreIs w' b mb (s.commit (.int .i64 x)) ∧ Frame2 b mb w w' := by
  have hh := P.head
  have hp := P.pos
  refine (I.commit_yes b mb s (.int .i64 x) w h (by omega) (by omega) ⟨_, rfl⟩).mono fun e w' ⟨he, h1, h2⟩ => ⟨?_, h1, h2⟩
  rw [he, hh, show (A.length : Int) - 1 + 1 = A.length by omega]
theorem pin_P {b mb : Nat} {s : St} {A Q : List Int} {N : Int} (P : PInv s A Q N) (w : World) (h : I.StoreIs w b mb s) (hN : N ≤ 1000) :
    Calls Try.prog 9 #[.pointer (some ⟨b, 0, none⟩)] w fun e w' => e = .returned (.int .i64 ((A.length : Int) - 1)) ∧ I.StoreIs w' b mb (s.pin (.int .i64 0)) ∧ Frame2 b mb w w' := by
  have hh := P.head
  have hp := P.pins s.head
  have hpos := P.pos
  have hlen := P.len
  rw [if_pos ⟨by omega, by omega⟩] at hp
  have hr := P.rng _ (getD_mem (show s.head.toNat < Q.length by omega))
  refine (I.pin_yes b mb s w h (by omega) (by omega) ⟨_, (P.at_ s.head).1⟩).mono fun e w' ⟨he, h1, h2⟩ => ⟨?_, h1, h2⟩
  rw [he, hh]

set_option maxRecDepth 100000 in
set_option maxHeartbeats 4000000 in
theorem plays_any (a0 : Option Addr) (len cap : Nat) (kq : Int) (K N : Nat → Int) (w : World) (hA : Acts w a0 len K N) (hK : ∀ i, 0 ≤ K i ∧ K i ≤ 255) :
    Calls Try.prog 5 #[.slice a0 len cap, .int .i64 kq] w fun e w' => e = .returned (.bool true) ∧ Below w.heap.size w w' := by
  have HA := hidp hA
  have HK := hidp hK
  clear hA hK
  go_enter Try.func5, Try.ntmps5
  go_wp2_with fail
  refine (I.new_any (.int .i64 5) _ ⟨_, rfl⟩).mono ?_
  rintro e w1 ⟨b, mb, rfl, S1, hb, hmb, hbel1⟩
  have H1 := hidp S1
  clear S1
  go_wp2_with fail
  refine (rnew_any 5 _).mono ?_
  rintro e w2 ⟨r, v, u, rfl, R2, hbel2⟩
  have R0 : PRel w b mb r 0 v u [5] [0] (I.st0 (.int .i64 5)) w2 := by
    refine ⟨PInv.start 5, by simp, H1.out.below hbel2 (Nat.le_refl _), ?_, hbel1.trans (hbel2.mono hbel1.size)⟩
    exact ⟨R2.blk, Nat.le_trans hbel1.size R2.hbase, R2.own.weaken hbel1.size, R2.ownQ.weaken hbel1.size, R2.sep, R2.len, R2.pos⟩
  clear R2 hbel2 hbel1 H1
  go_wp2
  go_loopw [7] (fun i wr => ∃ (k : Nat) (v u : Value) (A Q : List Int) (s : St), k ≤ len ∧ k ≤ 100 ∧ i = .int .i64 k ∧ PRel w b mb r k v u A Q s wr) (fun i _ => len - (intOf i).toNat)
  case atStart => exact ⟨0, v, u, [5], [0], _, by omega, by omega, rfl, R0⟩
  case round =>
    obtain ⟨k, v, u, A, Q, s, hk, hk2, rfl, R⟩ := hrel
    by_cases hlt : k < len ∧ k < 100
    · obtain ⟨l1, l2⟩ := hlt
      obtain ⟨g, o, rfl, hc⟩ := HA.out (by omega)
      have hcK := below_cell R.below (Nat.le_refl _) _ _ (hc k l1).1
      have hgw := World.block_lt_of_cell? w _ (hc k l1).1
      have hcN := (hc k l1).2
      have hKk := HK.out k
      have l1' : (k : Int) < (len : Int) := by omega
      have l2' : (k : Int) < 100 := by omega
      obtain ⟨n, hn⟩ : ∃ n, n = N k := ⟨_, rfl⟩
      rw [← hn] at hcN
      have HcN := hidp hcN
      clear hc hn hcN
      have HR := hidp R
      clear R
      go_upto_block 2 with (fail)
      go_cut [8, 36] (fun ok _ wx => ok = .bool true ∧ ∃ v' u' A' Q' s', PRel w b mb r (k + 1) v' u' A' Q' s' wx)
      case first =>
        rcases (by omega : K k % 3 = 0 ∨ K k % 3 = 1 ∨ K k % 3 = 2) with h3 | h3 | h3
        · have hlb := HR.out.lenb
          go_wp2_with fail
          go_region_held3 (fun W => W.cell? ⟨g, o + k * 2 + 1, none⟩ = some (.int .i64 n) ∧ Below w.heap.size w W) (first | exact keepP HcN hgw (by assumption) | exact keepP HcN hgw HR.out.below.drew)
            (first
              | (go_at_call 8
                 refine (commit_P HR.out.inv n _ HR.out.store.drew (by omega)).mono ?_
                 rintro e w2 ⟨rfl, S2, F2⟩
                 have HP := hidp (HR.out.drew.commit hb hmb n S2 F2)
                 have B2 := HP.out.below
                 clear S2 F2)
              | (go_at_call 16
                 refine (rcommit_any _ _ _ _ _ _ n _ HP.out.ref (by omega)).mono ?_
                 rintro e w3 ⟨v', u', rfl, R3, F3⟩
                 have HR3 := hidp (HP.out.full R3 F3)
                 have B3 := HR3.out.below
                 clear R3 F3))
          go_wp2
          go_meet
          exact ⟨rfl, _, _, _, _, _, HR3.out⟩
        · have hlb := HR.out.lenb
          go_wp2_with fail
          refine (pin_P HR.out.inv _ HR.out.store (by omega)).mono ?_
          rintro e w2 ⟨rfl, S2, F2⟩
          have HP := hidp (HR.out.pin hb hmb S2 F2)
          clear S2 F2
          go_wp2_with fail
          refine (rpin_any _ _ _ _ _ _ _ HP.out.ref (by omega) (fun q hq => by have := HP.out.rng q hq; omega)).mono ?_
          rintro e w3 ⟨rfl, R3, F3⟩
          have HR3 := hidp (HP.out.full R3 F3)
          clear R3 F3
          go_wp2_with fail
          go_meet
          exact ⟨rfl, _, _, _, _, _, HR3.out⟩
        · have hlb := HR.out.lenb
          by_cases hin : (0 ≤ n ∧ n < A.length) ∧ 0 < Q.getD n.toNat 0
          · obtain ⟨⟨n0, n1⟩, hq⟩ := hin
            obtain ⟨j, rfl⟩ : ∃ j : Nat, n = (j : Int) := ⟨n.toNat, by omega⟩
            rw [Int.toNat_natCast] at hq
            have hj : j < A.length := by omega
            have hq1 := HR.out.inv.rng _ (getD_mem (show j < Q.length by rw [← HR.out.inv.len]; exact hj))
            have hpin := HR.out.inv.pins j
            rw [if_pos ⟨by omega, by omega⟩, Int.toNat_natCast] at hpin
            have hpin := hidp hpin
            go_wp2_with fail
            go_region_held3 (fun W => W.cell? ⟨g, o + k * 2 + 1, none⟩ = some (.int .i64 j) ∧ Below w.heap.size w W) (first | exact keepP HcN hgw (by assumption) | exact keepP HcN hgw HR.out.below.drew)
              (first
                | (go_at_call 10
                   refine (I.release_yes b mb s j _ HR.out.store.drew (by rw [hpin.out]; omega) (by rw [hpin.out]; omega) ⟨_, (HR.out.inv.at_ _).1⟩).mono ?_
                   rintro e w2 ⟨rfl, S2, F2⟩
                   have HP := hidp (HR.out.drew.release hb hmb j hj hq S2 F2)
                   have B2 := HP.out.below
                   clear S2 F2)
                | (go_at_call 18
                   refine (rrelease_yes _ _ _ _ _ _ j _ HP.out.ref hj hq (by omega)).mono ?_
                   rintro e w3 ⟨rfl, R3, F3⟩
                   have HR3 := hidp (HP.out.full R3 F3)
                   have B3 := HR3.out.below
                   clear R3 F3))
            go_wp2
            go_meet
            exact ⟨rfl, _, _, _, _, _, HR3.out⟩
          · have hp0 : Hid (s.pins n = 0) := by
              show _ = _
              rw [HR.out.inv.pins n]
              by_cases hn : 0 ≤ n ∧ n < A.length
              · rw [if_pos hn]
                have := HR.out.inv.rng _ (getD_mem (show n.toNat < Q.length by rw [← HR.out.inv.len]; omega))
                have : ¬ 0 < Q.getD n.toNat 0 := fun e => hin ⟨hn, e⟩
                omega
              · rw [if_neg hn]
            have hno : Hid (¬ (0 ≤ n ∧ n < A.length) ∨ Q.getD n.toNat 0 = 0) := by
              show _ ∨ _
              by_cases hn : 0 ≤ n ∧ n < A.length
              · right; have := hp0.out; rw [HR.out.inv.pins n, if_pos hn] at this; exact this
              · exact .inl hn
            clear hin
            go_wp2_with fail
            go_region_held3 (fun W => W.cell? ⟨g, o + k * 2 + 1, none⟩ = some (.int .i64 n) ∧ Below w.heap.size w W) (first | exact keepP HcN hgw (by assumption) | exact keepP HcN hgw HR.out.below.drew)
              (first
                | (go_at_call 10
                   refine (I.release_no b mb s n _ HR.out.store.drew hp0.out).mono ?_
                   rintro e w2 ⟨rfl, rfl⟩)
                | (go_at_call 18
                   refine (rrelease_no _ _ _ _ _ _ n _ HR.out.ref.drew hno.out).mono ?_
                   rintro e w3 ⟨rfl, rfl⟩))
            go_wp2
            go_meet
            exact ⟨rfl, _, _, _, _, _, HR.out.drew.stay⟩
      case rest =>
        obtain ⟨rfl, v', u', A', Q', s', R'⟩ := hcut
        clear hcK
        have hlb := R'.lenb
        obtain ⟨m, hm⟩ : ∃ m, A'.length = m + 1 := ⟨A'.length - 1, by have := R'.inv.pos; omega⟩
        have HM := hidp hm
        have hm100 : m ≤ 101 := by omega
        have hcN := (keepP HcN hgw R'.below).1
        have HR' := hidp R'
        clear hm R' hlb
        go_wp2_with fail
        refine (at_P HR'.out.inv n _ HR'.out.store).mono ?_
        rintro e w4 ⟨rfl, B4⟩
        have HR4 := hidp (HR'.out.later B4)
        clear HR' B4 hcN
        have hcN := (keepP HcN hgw HR4.out.below).1
        go_wp2_with fail
        refine (rat_any _ _ _ _ _ _ n _ HR4.out.ref (by rw [HM.out]; omega)).mono ?_
        rintro e w5 ⟨rfl, rfl⟩
        generalize rAt A' Q' n = p
        obtain ⟨px, pb⟩ := p
        go_wp2_with fail
        refine (head_P HR4.out.inv HM.out _ HR4.out.store).mono ?_
        rintro e w5 ⟨rfl, B5⟩
        have HR5 := hidp (HR4.out.later B5)
        clear HR4 B5 hcN
        obtain ⟨g5, o5, c5, g6, o6, c6, rfl, rfl, q5, _⟩ := HR5.out.ref.read m (by rw [HM.out]; omega)
        have q6 := cellOf HR5.out.ref.blk 0 rfl
        rw [HM.out] at q6
        generalize A'.getD m 0 = y at q5 ⊢
        go_wp2_with (first
          | (go_at_call 11; refine (live_P HR5.out.inv _ HR5.out.store).mono ?_; rintro e w6 ⟨rfl, rfl⟩)
          | (go_at_call 21; refine (rlive_any _ _ _ _ _ _ _ HR5.out.ref (by rw [HM.out]; omega)).mono ?_; rintro e w6 ⟨rfl, rfl⟩))
        go_roundw
        case rel => exact ⟨k + 1, _, _, _, _, _, by omega, by omega, by go_num, HR5.out⟩
        case measure => simp [intOf]; omega
    · have HR := hidp R
      clear R
      have hlb := HR.out.lenb
      have hend : ¬ ((k : Int) < (len : Int) ∧ (k : Int) < 100) := by omega
      have hend : (k : Int) < (len : Int) → ¬ (k : Int) < 100 := fun a b => hend ⟨a, b⟩
      by_cases hA : (k : Int) < (len : Int)
      · have hB := hend hA
        clear hend hlt
        go_wp2_with fail
        refine (at_P HR.out.inv kq _ HR.out.store).mono ?_
        rintro e w4 ⟨rfl, B4⟩
        have HR4 := hidp (HR.out.later B4)
        clear HR B4
        go_wp2_with fail
        refine (rat_any _ _ _ _ _ _ kq _ HR4.out.ref (by omega)).mono ?_
        rintro e w5 ⟨rfl, rfl⟩
        generalize rAt A Q kq = p
        obtain ⟨px, pb⟩ := p
        go_wp2_with (first | (go_at_call 14; refine (awake_any _).mono ?_; rintro e w6 ⟨rfl, B6⟩))
        go_ret
        exact ⟨rfl, HR4.out.below.trans (B6.mono HR4.out.below.size)⟩
      · clear hend hlt
        go_wp2_with fail
        refine (at_P HR.out.inv kq _ HR.out.store).mono ?_
        rintro e w4 ⟨rfl, B4⟩
        have HR4 := hidp (HR.out.later B4)
        clear HR B4
        go_wp2_with fail
        refine (rat_any _ _ _ _ _ _ kq _ HR4.out.ref (by omega)).mono ?_
        rintro e w5 ⟨rfl, rfl⟩
        generalize rAt A Q kq = p
        obtain ⟨px, pb⟩ := p
        go_wp2_with (first | (go_at_call 14; refine (awake_any _).mono ?_; rintro e w6 ⟨rfl, B6⟩))
        go_ret
        exact ⟨rfl, HR4.out.below.trans (B6.mono HR4.out.below.size)⟩
end Go.Proofs.Ytacnphokgggmdaa
