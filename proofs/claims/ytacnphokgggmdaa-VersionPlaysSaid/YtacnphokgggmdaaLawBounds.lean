/- The law VersionBounds answers true, whatever the acts. -/
import Derived.Test.YtacnphokgggmdaaVI
import Derived.Test.YtacnphokgggmdaaAwake
import Derived.Test.YtacnphokgggmdaaMid
import Derived.Test.YtacnphokgggmdaaBinv
import Derived.Deep.DeepCutAuto
import Derived.Deep.CutBlock
namespace Go.Proofs.Ytacnphokgggmdaa
open Go.RowKit

theorem Try.info3 : (Try.prog.info? 3).map (fun i => (i.zero, i.size, i.bytes)) = some (some (.int .i64 0), 1, 8) := by kernel_rfl

/-- The acts that came in: kind and number of each of the first that are looked at. -/
def Acts (w : World) (a : Option Addr) (len : Nat) (K N : Nat → Int) : Prop :=
  0 < len → ∃ g o, a = some ⟨g, o, none⟩ ∧ ∀ i, i < len → w.cell? ⟨g, o + i * 2, none⟩ = some (.int .u8 (K i)) ∧ w.cell? ⟨g, o + i * 2 + 1, none⟩ = some (.int .i64 (N i))

/-- what a round of the law carries -/
structure BRel (w : World) (b mb : Nat) (k : Nat) (n : Int) (v : Value) (H : List Int) (s : St) (wr : World) : Prop where
  hn : 0 ≤ n ∧ n ≤ k
  hH : H.length ≤ k
  inv : BInv s n H
  store : I.StoreIs wr b mb s
  held : OwnMid wr w.heap.size 3 v H.length (H.map (Value.int .i64))
  below : Below w.heap.size w wr

theorem held_frame {w w2 : World} {b mb B n : Nat} {s : St} {v : Value} {xs : List Value} (hO : OwnMid w B 3 v n xs) (S : I.StoreIs w b mb s) (F : Frame2 b mb w w2) : OwnMid w2 B 3 v n xs := by
  refine hO.of_heap fun g hg => ?_
  obtain ⟨_, cur, hh⟩ := hO.block g hg
  refine F.block g (ltOf hh) ?_ ?_
  · rintro rfl; rw [S.blk] at hh; cases hh
  · rintro rfl; obtain ⟨es, clock, hb, _⟩ := S.map; rw [hb] at hh; cases hh
theorem store_grown {w w2 : World} {b mb B n : Nat} {s : St} {v : Value} {xs : List Value} (hO : OwnMid w B 3 v n xs) (S : I.StoreIs w b mb s) (hg : w.grownBy w2 v.ownBlock) : I.StoreIs w2 b mb s := by
  refine ⟨heap_grown hg S.blk ?_, S.map.grown hg ?_⟩
  · intro e
    obtain ⟨_, cur, hh⟩ := hO.block b e.symm
    rw [S.blk] at hh; cases hh
  · intro e
    obtain ⟨_, cur, hh⟩ := hO.block mb e.symm
    obtain ⟨es, clock, hb, _⟩ := S.map
    rw [hb] at hh; cases hh
theorem BRel.commit {w wr w2 : World} {b mb k : Nat} {n : Int} {v : Value} {H : List Int} {s : St} (R : BRel w b mb k n v H s wr) (hb : w.heap.size ≤ b) (hmb : w.heap.size ≤ mb)
    (S : I.StoreIs w2 b mb (s.commit (.int .i64 (7 * (n + 1))))) (F : Frame2 b mb wr w2) : BRel w b mb (k + 1) (n + 1) v H (s.commit (.int .i64 (7 * (n + 1)))) w2 :=
  ⟨by have := R.hn; omega, Nat.le_succ_of_le R.hH, R.inv.commit, S, held_frame R.held R.store F, R.below.trans (F.below R.below.size hb hmb)⟩
theorem BRel.pin {w wr w2 w3 : World} {b mb k : Nat} {n : Int} {v v' : Value} {H : List Int} {s : St} (R : BRel w b mb k n v H s wr) (hb : w.heap.size ≤ b) (hmb : w.heap.size ≤ mb)
    (S : I.StoreIs w2 b mb (s.pin (.int .i64 0))) (F : Frame2 b mb wr w2) (hO : OwnMid w3 w.heap.size 3 v' (H.length + 1) (H.map (Value.int .i64) ++ [.int .i64 n])) (hg : w2.grownBy w3 v.ownBlock) :
    BRel w b mb (k + 1) n v' (H ++ [n]) (s.pin (.int .i64 0)) w3 := by
  have h2 := held_frame R.held R.store F
  have hb2 := R.below.trans (F.below R.below.size hb hmb)
  refine ⟨by have := R.hn; omega, by have := R.hH; simp; omega, R.inv.pin R.hn.1 _, store_grown h2 S hg, by simpa using hO, hb2.grown hg hb2.size (fun g e => (h2.block g e).1)⟩
theorem BRel.release {w wr w2 : World} {b mb k : Nat} {n x : Int} {g off cap m : Nat} {t : List Int} {s : St} (R : BRel w b mb k n (.slice (some ⟨g, off, none⟩) m cap) (x :: t) s wr) (hm : m = t.length + 1) (hb : w.heap.size ≤ b) (hmb : w.heap.size ≤ mb)
    (S : I.StoreIs w2 b mb (s.release (.int .i64 0) x)) (F : Frame2 b mb wr w2) : BRel w b mb (k + 1) n (.slice (some ⟨g, if cap = 1 then off else off + 1, none⟩) (m - 1) (cap - 1)) t (s.release (.int .i64 0) x) w2 := by
  subst hm
  have h2 := held_frame R.held R.store F
  refine ⟨by have := R.hn; omega, by have := R.hH; simp at this; omega, R.inv.release _, S, OwnMid.tail (by simpa using h2), R.below.trans (F.below R.below.size hb hmb)⟩
theorem BRel.stay {w wr : World} {b mb k : Nat} {n : Int} {v : Value} {H : List Int} {s : St} (R : BRel w b mb k n v H s wr) : BRel w b mb (k + 1) n v H s wr :=
  ⟨by have := R.hn; omega, Nat.le_succ_of_le R.hH, R.inv, R.store, R.held, R.below⟩

set_option maxRecDepth 100000 in
set_option maxHeartbeats 4000000 in
theorem bounds_any (a0 : Option Addr) (len cap : Nat) (K N : Nat → Int) (w : World) (hA : Acts w a0 len K N) (hK : ∀ i, 0 ≤ K i ∧ K i ≤ 255) :
    Calls Try.prog 3 #[.slice a0 len cap] w fun e w' => e = .returned (.bool true) ∧ Below w.heap.size w w' := by
  have HA := hidp hA
  have HK := hidp hK
  clear hA hK
  go_enter Try.func3, Try.ntmps3
  go_wp2_with fail
  refine (I.new_any (.int .i64 0) _ ⟨_, rfl⟩).mono ?_
  rintro e w1 ⟨b, mb, rfl, S1, hb, hmb, hbel1⟩
  have R0 : BRel w b mb 0 0 (.slice none 0 0) [] (I.st0 (.int .i64 0)) w1 := ⟨by omega, Nat.le_refl _, BInv.start, S1, OwnMid.nil _ _ _, hbel1⟩
  clear S1 hbel1
  go_wp2
  go_loopw [4, 5, 6] (fun v n i wr => ∃ (k : Nat) (nn : Int) (H : List Int) (s : St), k ≤ len ∧ k ≤ 100 ∧ i = .int .i64 k ∧ n = .int .i64 nn ∧ BRel w b mb k nn v H s wr) (fun _ _ i _ => len - (intOf i).toNat)
  case atStart => exact ⟨0, 0, [], _, by omega, by omega, rfl, rfl, R0⟩
  case round =>
    obtain ⟨k, nn, H, s, hk, hk2, rfl, rfl, R⟩ := hrel
    by_cases hlt : k < len ∧ k < 100
    · obtain ⟨l1, l2⟩ := hlt
      obtain ⟨g, o, rfl, hc⟩ := HA.out (by omega)
      have hcK := below_cell R.below (Nat.le_refl _) _ _ (hc k l1).1
      have hKk := HK.out k
      have l1' : (k : Int) < (len : Int) := by omega
      have l2' : (k : Int) < 100 := by omega
      clear hc
      have HR := hidp R
      clear R
      go_upto_block 2 with (fail)
      go_cut [4, 5, 26] (fun v n _ wx => ∃ (nn' : Int) (H' : List Int) (s' : St), n = .int .i64 nn' ∧ BRel w b mb (k + 1) nn' v H' s' wx)
      case first =>
        rcases (by omega : K k % 3 = 0 ∨ K k % 3 = 1 ∨ K k % 3 = 2) with h3 | h3 | h3
        · have hn := HR.out.hn
          have hhead : Hid (s.head = nn) := HR.out.inv.head
          have e7 : IntKind.i64.wrap (7 * (nn + 1)) = 7 * (nn + 1) := IntWalk.i64_in _ (by omega)
          go_wp2_with fail
          refine (I.commit_yes b mb s (.int .i64 (7 * (nn + 1))) _ HR.out.store (by rw [hhead.out]; omega) (by rw [hhead.out]; omega) ⟨_, rfl⟩).mono ?_
          rintro e w2 ⟨rfl, S2, F2⟩
          have R2 := HR.out.commit hb hmb S2 F2
          clear S2 F2 HR
          go_wp2_with fail
          go_meet
          exact ⟨_, _, _, rfl, R2⟩
        · have hhead : Hid (s.head = nn) := HR.out.inv.head
          have hpin := HR.out.inv.pins nn
          have hcnt := List.count_le_length (a := nn) (l := H)
          have hHl := HR.out.hH
          have HP := hidp hpin
          obtain ⟨i0, hi, hz0, hz1, hz2⟩ := info_parts Try.info3
          clear hpin
          go_wp2_with fail
          refine (I.pin_yes b mb s _ HR.out.store (by rw [hhead.out, HP.out]; omega) (by rw [hhead.out, HP.out]; omega) ⟨_, by rw [hhead.out]; exact HR.out.inv.val (.inl rfl) _⟩).mono ?_
          rintro e w2 ⟨rfl, S2, F2⟩
          rw [hhead.out]
          have H2 := hidp (And.intro S2 F2)
          have hheld := held_frame HR.out.held HR.out.store F2
          have hsz : w.heap.size ≤ w2.heap.size := Nat.le_trans HR.out.below.size F2.size
          clear S2 F2
          go_wp2_with (at_builtin; (refine wpList_append1_mid rfl _ _ 25 rfl i0 (.int .i64 0) 8 Try.underlying25 hi hz0 hz1 hz2 rfl rfl hheld (.int .i64 nn) _ rfl rfl rfl (by omega) (by decide) hsz ?_; intro v' w3 hO hg; have R2 := HR.out.pin hb hmb H2.out.1 H2.out.2 hO hg; clear hO hg hheld H2 HR))
          go_meet
          exact ⟨_, _, _, rfl, R2⟩
        · cases H with
          | nil =>
            obtain ⟨a4, c4, rfl⟩ := HR.out.held.slice
            have R2 := HR.out.stay
            clear HR
            go_wp2
            go_meet
            exact ⟨_, _, _, rfl, R2⟩
          | cons x t =>
            obtain ⟨g4, o4, c4, rfl, hx0⟩ : ∃ g4 o4 c4, u4 = .slice (some ⟨g4, o4, none⟩) (t.length + 1) c4 ∧ wr.cell? ⟨g4, o4, none⟩ = some (.int .i64 x) := by
              obtain ⟨h1, ⟨rfl, h2⟩ | ⟨g', off', cap', cur, rfl, hg, hh, hn, hm, hs, hc⟩⟩ := HR.out.held
              · simp at h2
              · exact ⟨g', off', cap', rfl, cellOf hh off' (by simpa using hc 0 (.int .i64 x) rfl)⟩
            have hpin := HR.out.inv.pins x
            have hcnt := List.count_le_length (a := x) (l := x :: t)
            have hpos : 0 < (x :: t).count x := List.count_pos_iff.2 (.head _)
            have hHl := HR.out.hH
            have HP := hidp hpin
            have hcap : t.length + 1 ≤ c4 := by
              obtain ⟨h1, ⟨h2, _⟩ | ⟨g', off', cap', cur, h2, hg, hh, hn, hm, hs, hc⟩⟩ := HR.out.held
              · cases h2
              · cases h2; exact hn
            clear hpin
            go_wp2_with fail
            refine (I.release_yes b mb s x _ HR.out.store (by rw [HP.out]; omega) (by rw [HP.out]; simp only [List.length_cons] at hcnt hHl; omega) ⟨_, HR.out.inv.val (.inr (.head _)) _⟩).mono ?_
            rintro e w2 ⟨rfl, S2, F2⟩
            have R2 := HR.out.release rfl hb hmb S2 F2
            clear S2 F2 HR hx0
            by_cases hc1 : c4 = 1
            · subst hc1
              obtain rfl : t = [] := List.eq_nil_of_length_eq_zero (by omega)
              rw [if_pos rfl] at R2
              go_wp2
              go_meet
              exact ⟨_, _, _, rfl, R2⟩
            · rw [if_neg hc1] at R2
              go_wp2
              go_meet
              exact ⟨_, _, _, rfl, R2⟩
      case rest =>
        obtain ⟨nn', H', s', rfl, R'⟩ := hcut
        obtain ⟨a4, c4, rfl⟩ := R'.held.slice
        have hlive := R'.inv.live
        have hHl := R'.hH
        obtain ⟨a4', c4', e4, hrow⟩ := R'.held.row.open1
        cases e4
        have HW := hidp hrow
        obtain ⟨m, hm⟩ : ∃ m, m = H'.length := ⟨_, rfl⟩
        have HM := hidp hm
        rw [← hm] at hlive hHl ⊢
        have hl1 : (1 : Int) ≤ (s'.n : Int) := by omega
        have hl2 : (s'.n : Int) ≤ (m : Int) + 1 := by omega
        have HR' := hidp R'
        clear hrow hm R' hcK
        go_wp2_with (go_at_call 11; refine (I.live_yes b mb s' _ HR'.out.store).mono ?_; rintro e w' ⟨rfl, rfl⟩)
        go_loopw [7] (fun q wx => ∃ j : Nat, j ≤ m ∧ q = .int .i64 j ∧ Below wc.heap.size wc wx) (fun q _ => m - (intOf q).toNat)
        case atStart => exact ⟨0, by omega, rfl, Below.refl _ _⟩
        case round =>
          obtain ⟨j, hj, rfl, hbj⟩ := hrel
          by_cases hjm : j < m
          · obtain ⟨g5, o5, rfl, c5⟩ := HW.out (by rw [← HM.out]; omega)
            have d5 := below_cell hbj (Nat.le_refl _) _ _ (c5 j (by rw [← HM.out]; exact hjm))
            have hjl : j < H'.length := by rw [← HM.out]; exact hjm
            rw [show (H'.map (Value.int .i64)).getD j undef = .int .i64 H'[j] by simp [List.getD, hjl]] at d5
            have hmem : H'[j] ∈ H' := List.getElem_mem hjl
            obtain ⟨x, hx⟩ : ∃ x, x = H'[j] := ⟨_, rfl⟩
            rw [← hx] at d5 hmem
            have hrng := HR'.out.inv.rng x hmem
            have hnn := HR'.out.hn
            have e7 : IntKind.i64.wrap (7 * x) = 7 * x := IntWalk.i64_in _ (by omega)
            have l3 : (j : Int) < (m : Int) := by omega
            have hpx : Hid (s'.pins x = (H'.count x : Int)) := HR'.out.inv.pins x
            have hcx : 0 < H'.count x := List.count_pos_iff.2 hmem
            have hval : Hid (s'.val (.int .i64 0) x = .int .i64 (7 * x)) := HR'.out.inv.val (.inr hmem) _
            have hsome : Hid ((s'.g x).isSome = true) := HR'.out.inv.got (.inr hmem)
            have hS5 := hidp (HR'.out.store.below hbj (Nat.le_refl _))
            clear c5 hx hmem hjl
            go_wp2_with fail
            refine (I.at_yes b mb s' x _ hS5.out ⟨_, hval.out⟩).mono ?_
            rintro e w6 ⟨rfl, hb6⟩
            rw [hval.out, hsome.out]
            have d6 := below_cell hb6 (Nat.le_refl _) _ _ d5
            have hS6 := hidp (hS5.out.below hb6 (Nat.le_refl _))
            have hbj6 := hbj.trans (hb6.mono hbj.size)
            clear hb6 d5 hS5
            go_wp2_with fail
            refine (I.pins_yes b mb s' x _ hS6.out).mono ?_
            rintro e w7 ⟨rfl, rfl⟩
            rw [hpx.out]
            have l4 : (1 : Int) ≤ (H'.count x : Int) := by omega
            go_wp2
            go_roundw
            case rel => exact ⟨j + 1, by omega, by go_num, hbj6⟩
            case measure => simp [intOf]; omega
          · have hR2 : BRel w b mb (k + 1) nn' (.slice a4 m c4) H' s' wr := by
              have R := HR'.out
              rw [HM.out]
              refine ⟨R.hn, R.hH, R.inv, R.store.below hbj (Nat.le_refl _), R.held.below hbj (Nat.le_refl _), R.below.trans (hbj.mono R.below.size)⟩
            have hR3 := hidp hR2
            clear hR2 HR' HW
            go_wp2
            go_roundw
            case rel => exact ⟨k + 1, nn', H', s', by omega, by omega, by go_num, rfl, hR3.out⟩
            case measure => simp [intOf]; omega
    · have hb0 := R.below
      have hR := hidp R
      clear R
      rcases (by omega : ¬ k < len ∨ (k < len ∧ ¬ k < 100)) with h | ⟨h, h'⟩
      · have l1 : ¬ ((k : Int) < (len : Int)) := by omega
        go_wp2_with fail
        refine (awake_any _).mono ?_
        rintro e w' ⟨rfl, hb'⟩
        go_wp2
        go_ret
        exact ⟨rfl, hb0.trans (hb'.mono hb0.size)⟩
      · have l1 : ((k : Int) < (len : Int)) := by omega
        have l2 : ¬ ((k : Int) < 100) := by omega
        go_wp2_with fail
        refine (awake_any _).mono ?_
        rintro e w' ⟨rfl, hb'⟩
        go_wp2
        go_ret
        exact ⟨rfl, hb0.trans (hb'.mono hb0.size)⟩
end Go.Proofs.Ytacnphokgggmdaa
