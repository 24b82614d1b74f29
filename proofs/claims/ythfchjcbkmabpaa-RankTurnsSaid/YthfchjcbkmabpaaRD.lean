/- The place of the one that is taken of some places: the walk of the program's best. -/
import Derived.Test.YthfchjcbkmabpaaRC
namespace Go.Proofs.Ythfchjcbkmabpaa
open Go.RowKit

theorem made8 {w : World} {base g n : Nat} {e : TypeId} {xs : List Value} (h : w.ownsRow base e 8 (.slice (some ⟨g, 0, none⟩) n n) n xs) :
    base ≤ g ∧ ∃ C : Array Value, w.heap[g]? = some (.cells C e (0, 0)) ∧ C.size = n * 8 := by
  rcases h.2 with ⟨hv, _⟩ | ⟨g', cap, cur, hv, hg, hh, hn, hm, hs, ht⟩
  · cases hv
  · cases hv
    exact ⟨hg, cur, hh, by omega⟩

theorem keys_size (c : Cnd) : c.keys.toArray.size = 8 := rfl
theorem heap_size_setCells {b : Nat} : ∀ (vs : List Value) (w : World) (o : Nat), (w.setCells b o vs).heap.size = w.heap.size
  | [], _, _ => rfl
  | v :: r, w, o => (heap_size_setCells r (w.setCell ⟨b, o, none⟩ v) (o + 1)).trans (by simp)
theorem CandsV.near {w : World} {a : Option Addr} {n : Nat} {L : List Cnd} (h : CandsV w a n L) (hn : 0 < n) : ∃ g o, a = some ⟨g, o, none⟩ ∧ ∀ b, b < n → w.cell? ⟨g, o + b * 16 + 2, none⟩ = some (.int .u32 (NL L b)) := by
  obtain ⟨g, o, e, h2⟩ := h.rows hn
  refine ⟨g, o, e, fun b hb => ?_⟩
  have hb' : b < L.length := by rw [h.len]; exact hb
  rw [h2 b hb' 2 _ rfl]
  simp [NL, List.getD, hb']
theorem best_any (L : List Cnd) (xs : List Nat) (a : Option Addr) (n c : Nat) (v : Value) (w : World) (hL : CandsV w a n L) (hv : RowAt w 1 v xs.length (xs.map fun i : Nat => .int .i64 (i : Int)))
    (hx : ∀ i ∈ xs, i < n) (hn : n ≤ 1000) (hxs : xs.length ≤ 1000) (hpl : ∀ c ∈ L, c.pl ≤ 1000000) :
    Calls Try.prog 20 #[.slice a n c, v] w fun e w' => (∃ r : Int, e = .returned (.int .i64 r) ∧ BestOf (KL L) (NL L) xs r) ∧ Below w.heap.size w w' := by
  obtain ⟨a2, c2, rfl, hr⟩ := hv.open1
  have HX := hidp hx
  have HR := hidp hr
  have HL := hidp hL
  have HPL := hidp hpl
  clear hx hr hL hv hpl
  obtain ⟨i0, hi0, hz0, hz1, hz2⟩ := infos49
  have hmm := @run_makeMap Try.prog
  go_enter Try.func20, Try.ntmps20
  go_wp2_with (first
    | (refine wpList_make_full _ rfl (.tmp 17) (.tmp 17) 53 rfl w.heap.size 49 i0 (.agg z8) 8 Try.underlying53 hi0 hz0 hz1 .i64 .i64 n n n rfl rfl rfl rfl (by rw [hz2]; omega) (by simp only [maxLen]; omega) (Nat.le_refl _) ?_
       intro w1 hown1 hg1
       have hM := made8 hown1
       have hB1 : Below w.heap.size w w1 := (Below.refl _ _).grown hg1 (Nat.le_refl _) (by intro g hg; cases hg)
       have hs1 := hg1.size
       have M1 := hidp hM
       have HB1 := hidp hB1
       clear hown1 hg1 hM hB1))
  obtain ⟨C0, hC0, hCs⟩ := M1.out.2
  have h0 : KeysAt (w1.alloc (.map #[] 0)) w.heap.size n (KL L) [] := ⟨C0, heap_alloc_at hC0 _, hCs, fun i hi => absurd hi (by simp)⟩
  have hgl : w.heap.size < w1.heap.size := ltOf hC0
  have hm0 := MapIs.made .u32 w1 w1.heap.size rfl
  have hst0 := StampedAt.made w1 w1.heap.size rfl
  have hB0 : Below w.heap.size w (w1.alloc (.map #[] 0)) := HB1.out.alloc (by omega) _
  have H0 := hidp h0
  have HM0 := hidp (And.intro hm0 hst0)
  have HB0 := hidp hB0
  have hsz0 : (w1.alloc (.map #[] 0)).heap.size = w1.heap.size + 1 := by simp
  generalize w1.heap.size = mb at *
  generalize w1.alloc (.map #[] 0) = W0 at *
  clear h0 hm0 hst0 hB0 hC0 hCs M1 HB1 hmm hs1
  go_loopw [22] (fun i wr => ∃ j : Nat, j ≤ xs.length ∧ i = .int .i64 j ∧ KeysAt wr w.heap.size n (KL L) (xs.take j) ∧ MapIs .u32 wr mb (fun _ => none) 0 ∧ StampedAt wr mb ∧ Below w.heap.size w wr ∧ mb < wr.heap.size) (fun i _ => xs.length - (intOf i).toNat)
  case atStart => exact ⟨0, by omega, rfl, H0.out, HM0.out.1, HM0.out.2, HB0.out, by omega⟩
  case round =>
    obtain ⟨j, hj, rfl, hK, hM, hS, hB, hlt⟩ := hrel
    obtain ⟨w2, rfl⟩ : ∃ w2, w2 = wr := ⟨_, rfl⟩
    by_cases hjl : j < xs.length
    · obtain ⟨gi, oi, rfl, hci⟩ := HR.out (by omega)
      have hxi : xs[j] ∈ xs := List.getElem_mem hjl
      have hxn := HX.out _ hxi
      have ci := below_cell hB (Nat.le_refl _) _ _ (hci j hjl)
      have hgd : (xs.map fun i : Nat => (.int .i64 (i : Int) : Value)).getD j undef = .int .i64 (xs[j] : Int) := by simp [List.getD, hjl]
      rw [hgd] at ci
      have htk : xs.take (j + 1) = xs.take j ++ [xs[j]] := List.take_succ_eq_append_getElem hjl
      generalize xs[j] = ix at *
      have hLw := HL.out.below hB
      obtain ⟨gl, ol, rfl, hrl⟩ := hLw.rows (by omega)
      have hLl := hLw.len
      have hix : ix < L.length := by omega
      have cl := hrl ix hix
      have hcm := List.getElem_mem hix
      have hcat := hLw.ats _ hcm
      have hcp := HPL.out _ hcm
      have hke : (KL L ix) = L[ix].key := by simp [KL, List.getD, hix]
      generalize L[ix] = cx at *
      have l1 : (j : Int) < (xs.length : Int) := by omega
      have l2 : (ix : Int) < (n : Int) := by omega
      have HCL := hidp cl
      have HKE := hidp hke
      have HTK := hidp htk
      have HW := hidp (And.intro hK (And.intro hM (And.intro hS hB)))
      have HLW := hidp (And.intro hcat hcp)
      clear hci hgd hrl hLw hLl cl hcm hcat hcp hke htk hK hM hS hB hxi
      go_wp2_with (first
        | (with_reducible refine wpList_load_mid rfl 34 (.tmp 30) rfl gl (ol + ix * 16) rfl cx.cells _ HCL.out Try.underlying34 rfl (by rw [Cnd.len]; exact Try.info34) ?_)
        | (go_at_call 23; refine (keyed_any cx _ HLW.out.1 HLW.out.2).mono ?_; rintro e w3 ⟨rfl, B3⟩
           have hK3 := HW.out.1.below B3 (by omega)
           have HW3 := hidp (And.intro hK3 (And.intro (HW.out.2.1.below B3 hlt) (And.intro (HW.out.2.2.1.of_heap (B3.block _ hlt)) (HW.out.2.2.2.trans (B3.mono HW.out.2.2.2.size)))))
           have hlt3 : mb < w3.heap.size := Nat.lt_of_lt_of_le hlt B3.size
           clear hK3 B3)
        | (with_reducible refine wpList_store_mid rfl 49 (.tmp 33) (.tmp 32) rfl w.heap.size (ix * 8) cx.keys.toArray rfl rfl (by rw [keys_size]; exact HW3.out.1.there hxn) (by rw [keys_size]; exact Try.info49) (all_one8 cx) ?_))
      go_roundw
      case rel =>
        obtain ⟨p1, p2, p3, p4⟩ := HW3.out
        have hst := p1.store hxn
        rw [← HTK.out, HKE.out] at hst
        exact ⟨j + 1, by omega, by go_num, hst, p2.of_heap (heap_setCells_far (by omega) _ _ _), p3.of_heap (heap_setCells_far (by omega) _ _ _), below_setCells (Nat.le_refl _) _ _ _ p4, by rw [show (w3.setCells w.heap.size (ix * 8) cx.keys).heap.size = w3.heap.size from heap_size_setCells _ _ _]; exact hlt3⟩
      case measure => simp [intOf]; omega
    · have l1 : ¬ (j : Int) < (xs.length : Int) := by omega
      obtain rfl : j = xs.length := by omega
      rw [List.take_length] at hK
      have HW := hidp (And.intro hK (And.intro hM (And.intro hS hB)))
      clear hK hM hS hB H0 HB0 HM0 HPL
      go_wp2
      go_loopw [37] (fun i wr => ∃ (j : Nat) (f : Int → Option Value) (m : Nat), j ≤ xs.length ∧ i = .int .i64 j ∧ GrpMap (KL L) (NL L) (xs.take j) f ∧ MapIs .u32 wr mb f m ∧ StampedAt wr mb ∧ KeysAt wr w.heap.size n (KL L) xs ∧ Below w.heap.size w wr ∧ mb < wr.heap.size) (fun i _ => xs.length - (intOf i).toNat)
      case atStart => exact ⟨0, _, 0, by omega, rfl, GrpMap.nil _ _, HW.out.2.1, HW.out.2.2.1, HW.out.1, HW.out.2.2.2, hlt⟩
      case round =>
        clear hj hjl l1 hlt HW
        obtain ⟨j, f, m, hj, rfl, hG, hM, hS, hK, hB, hlt⟩ := hrel
        obtain ⟨w3, rfl⟩ : ∃ w3, w3 = wr := ⟨_, rfl⟩
        by_cases hjl : j < xs.length
        · obtain ⟨gi, oi, rfl, hci⟩ := HR.out (by omega)
          have hxi : xs[j] ∈ xs := List.getElem_mem hjl
          have hxn := HX.out _ hxi
          have ci := below_cell hB (Nat.le_refl _) _ _ (hci j hjl)
          have hgd : (xs.map fun i : Nat => (.int .i64 (i : Int) : Value)).getD j undef = .int .i64 (xs[j] : Int) := by simp [List.getD, hjl]
          rw [hgd] at ci
          have htk : xs.take (j + 1) = xs.take j ++ [xs[j]] := List.take_succ_eq_append_getElem hjl
          generalize xs[j] = ix at *
          obtain ⟨gl, ol, rfl, hnr⟩ := (HL.out.below hB).near (by omega)
          have cn := hnr ix hxn
          have l1 : (j : Int) < (xs.length : Int) := by omega
          have l2 : (ix : Int) < (n : Int) := by omega
          have hl := hM.look (t := 54) Try.underlying54 Try.underlying27 (show (zeroValue 3).run Try.prog w3 = .ok (.int .i64 0) w3 by kernel_rfl) (NL L ix) true
          rw [if_pos rfl] at hl
          have HTK := hidp htk
          have HW := hidp (And.intro hG (And.intro hM (And.intro hS (And.intro hK hB))))
          have HNR := hidp hnr
          clear hci hgd htk hG hM hS hK hB hnr
          cases hf : f (NL L ix) with
          | none =>
            rw [hf] at hl
            simp at hl
            have HF := hidp hf
            clear hf
            go_wp2_with (first
              | (refine wpList_update_st rfl (.tmp 56) (.tmp 61) (.tmp 62) 54 rfl Try.underlying54 Try.underlying27 rfl HW.out.2.1 HW.out.2.2.1 (NL L ix) rfl (.int .i64 ix) rfl ?_
                 intro w4 hM4 hS4 ho4
                 have HW4 := hidp (And.intro hM4 (And.intro hS4 ho4))
                 clear hM4 hS4 ho4))
            go_roundw
            case rel =>
              obtain ⟨q1, q2, q3⟩ := HW4.out
              refine ⟨j + 1, _, _, by omega, by go_num, ?_, q1, q2, ?_, ?_, ?_⟩
              · rw [HTK.out]; exact HW.out.1.new ix HF.out
              · obtain ⟨C, e1, e2, e3⟩ := HW.out.2.2.2.1
                exact ⟨C, by rw [q3.block _ (by omega)]; exact e1, e2, e3⟩
              · exact HW.out.2.2.2.2.trans (q3.below (by omega))
              · rw [q3.size]; exact hlt
            case measure => simp [intOf]; omega
          | some v =>
            obtain ⟨k, rfl, hk1, hk2, -⟩ := HW.out.1.1 _ _ hf
            rw [hf] at hl
            simp at hl
            have hkx : k ∈ xs := List.mem_of_mem_take hk1
            have hkn := HX.out _ hkx
            obtain ⟨b, hb⟩ : ∃ b, b = bet (KL L) true k ix := ⟨_, rfl⟩
            have hbn : b < n := by rw [hb]; unfold bet; split <;> assumption
            have hbz : NL L b = NL L ix := by rw [hb]; unfold bet; split; exact hk2; rfl
            have HF := hidp hf
            have HBT := hidp hb
            have cb := HNR.out b hbn
            rw [hbz] at cb
            have l3 : (b : Int) < (n : Int) := by omega
            have CB := hidp cb
            clear hf hb cb hk1 hk2 hbz
            go_wp2_with (first
              | (go_at_call 26; refine (better_any w.heap.size 0 n n (KL L) k ix true _ hkn hxn (HW.out.2.2.2.1.range hkx) (HW.out.2.2.2.1.range hxi)).mono ?_; rw [← HBT.out]; rintro e w5 ⟨rfl, B5⟩
                 have HW5 := hidp (And.intro (HW.out.2.1.below B5 hlt) (And.intro (HW.out.2.2.1.of_heap (B5.block _ hlt)) (And.intro (HW.out.2.2.2.1.below B5 (by omega)) (HW.out.2.2.2.2.trans (B5.mono HW.out.2.2.2.2.size)))))
                 have hlt5 : mb < w5.heap.size := Nat.lt_of_lt_of_le hlt B5.size
                 have cb5 := below_cell B5 (Nat.le_refl _) _ _ CB.out
                 clear B5)
              | (refine wpList_update_st rfl (.tmp 56) (.tmp 61) (.tmp 62) 54 rfl Try.underlying54 Try.underlying27 rfl HW5.out.1 HW5.out.2.1 (NL L ix) rfl (.int .i64 b) rfl ?_
                 intro w4 hM4 hS4 ho4
                 have HW4 := hidp (And.intro hM4 (And.intro hS4 ho4))
                 clear hM4 hS4 ho4))
            go_roundw
            case rel =>
              obtain ⟨q1, q2, q3⟩ := HW4.out
              refine ⟨j + 1, _, _, by omega, by go_num, ?_, q1, q2, ?_, ?_, ?_⟩
              · rw [HTK.out, HBT.out]; exact HW.out.1.old ix k HF.out
              · obtain ⟨C, e1, e2, e3⟩ := HW5.out.2.2.1
                exact ⟨C, by rw [q3.block _ (by omega)]; exact e1, e2, e3⟩
              · exact HW5.out.2.2.2.trans (q3.below (by omega))
              · rw [q3.size]; exact hlt5
            case measure => simp [intOf]; omega
        · have l1 : ¬ (j : Int) < (xs.length : Int) := by omega
          obtain rfl : j = xs.length := by omega
          rw [List.take_length] at hG
          have HW := hidp (And.intro hG (And.intro hM (And.intro hS (And.intro hK hB))))
          clear hG hM hS hK hB
          go_wp2_with (first
            | (at_range; refine wpList_range_is rfl (.tmp 64) 54 rfl Try.underlying54 rfl HW.out.2.1 HW.out.2.2.1 ?_
               intro w4 hR4 hB4 hs4
               have HW4 := hidp (And.intro hR4 hB4)
               clear hR4 hB4))
          obtain ⟨r, hr⟩ : ∃ r, r = w3.heap.size := ⟨_, rfl⟩
          rw [← hr] at HW4
          have hr1 : w.heap.size ≤ r := by rw [hr]; exact HW.out.2.2.2.2.size
          have hr2 : mb < r := by rw [hr]; exact hlt
          have hr3 : w.heap.size < r := by omega
          have hr4 : r < w4.heap.size := by omega
          have hK4 : KeysAt w4 w.heap.size n (KL L) xs := HW.out.2.2.2.1.below HW4.out.2 hr3
          have hB4 : Below w.heap.size w w4 := HW.out.2.2.2.2.trans (HW4.out.2.mono hr1)
          have H4 := hidp (And.intro HW4.out.1 (And.intro hK4 hB4))
          have HG := hidp HW.out.1
          rw [← hr]
          clear HW HW4 hK4 hB4 hr hs4 hlt
          go_loopw [13] (fun i wr => ∃ (out : Int) (left : Int → Bool), i = .int .i64 out ∧ OutIs (KL L) f left out ∧ Rng .u32 wr mb r f left ∧ KeysAt wr w.heap.size n (KL L) xs ∧ Below w.heap.size w wr ∧ r < wr.heap.size) (fun _ wr => wr.rangeLeft mb r)
          case atStart => exact ⟨-1, _, rfl, OutIs.start _ _, H4.out.1, H4.out.2.1, H4.out.2.2, hr4⟩
          case round =>
            clear H4 hj hjl l1 hr4
            obtain ⟨out, left, rfl, hO, hR, hK, hB, hr4⟩ := hrel
            obtain ⟨w5, rfl⟩ : ∃ w5, w5 = wr := ⟨_, rfl⟩
            have H5 := hidp (And.intro hO (And.intro hR (And.intro hK hB)))
            clear hO hR hK hB
            rcases H5.out.2.1.next (P := Try.prog) 0 with ⟨h0, hrun⟩ | ⟨k, v, w6, hf, hlk, hrun, hR6, hlt6, hB6, hs6, hen⟩
            · have HD := hidp h0
              clear h0
              go_wp2
              go_ret
              exact ⟨⟨out, rfl, H5.out.1.done HG.out HD.out⟩, H5.out.2.2.2⟩
            · obtain ⟨i, rfl, hi1, -, -⟩ := HG.out.1 _ _ hf
              have hin := HX.out _ hi1
              have hB6 := hB6 r (Nat.le_refl _)
              have hK6 := H5.out.2.2.1.below hB6 hr3
              have hB6' : Below w.heap.size w w6 := H5.out.2.2.2.trans (hB6.mono hr1)
              have hr6 : r < w6.heap.size := by omega
              have H6 := hidp (And.intro hR6 (And.intro hK6 (And.intro hB6' hlt6)))
              have HF := hidp (And.intro hf hlk)
              clear hf hlk hR6 hlt6 hB6 hs6 hK6 hB6' hr4
              rcases H5.out.1 with ⟨rfl, ho⟩ | ⟨o, z, rfl, hz, hlz, hle⟩
              · have HO := hidp ho
                clear ho
                go_wp2
                go_roundw
                case rel => exact ⟨i, _, rfl, OutIs.first HO.out k i HF.out.1, H6.out.1, H6.out.2.1, H6.out.2.2.1, hr6⟩
                case measure => exact H6.out.2.2.2
              · obtain ⟨o', e, ho1, -, -⟩ := HG.out.1 _ _ hz
                obtain rfl : o = o' := by simp at e; omega
                have hon := HX.out _ ho1
                have HO := hidp (And.intro hz (And.intro hlz hle))
                clear hz hlz hle e
                go_wp2_with (first
                  | (go_at_call 26; refine (better_any w.heap.size 0 n n (KL L) o i false _ hon hin (H6.out.2.1.range ho1) (H6.out.2.1.range hi1)).mono ?_; rintro e w7 ⟨rfl, B7⟩
                     have H7 := hidp (And.intro (H6.out.1.below B7 (by omega) hr6) (And.intro (H6.out.2.1.below B7 (by omega)) (And.intro (H6.out.2.2.1.trans (B7.mono H6.out.2.2.1.size)) (show w7.rangeLeft mb r = w6.rangeLeft mb r from rangeLeft_below B7 (by omega) hr6))))
                     have hr7 : r < w7.heap.size := Nat.lt_of_lt_of_le hr6 B7.size
                     clear B7))
                go_roundw
                case rel => exact ⟨_, _, rfl, OutIs.next o z HO.out.1 HO.out.2.1 HO.out.2.2 k i HF.out.1, H7.out.1, H7.out.2.1, H7.out.2.2.1, hr7⟩
                case measure => rw [H7.out.2.2.2]; exact H6.out.2.2.2
end Go.Proofs.Ythfchjcbkmabpaa
