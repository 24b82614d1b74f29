/- What the document's queue does, function by function. -/
import Derived.Test.YtfcfckcpmjccoaaQI2
import Derived.Test.YtfcfckcpmjccoaaApp
namespace Go.Proofs.Ytfcfckcpmjccoaa
open Go.RowKit

theorem QIs.put {w wr : World} {t : TypeId} {base b : Nat} {v o : Value} {xs ys : List Int} {most : Nat} {skip : Bool} (h : QIs w t base b v xs most skip) (hB : Below w.heap.size w wr)
    (hO : OwnMid wr w.heap.size 5 o ys.length (ys.map (Value.int .u8))) (hr : ∀ x ∈ ys, 0 ≤ x ∧ x ≤ 255) (hl : ys.length ≤ most) :
    QIs (wr.setCell ⟨b, 0, none⟩ o) t base b o ys most skip ∧ Frame1 b w (wr.setCell ⟨b, 0, none⟩ o) := by
  have hlt := ltOf h.blk
  have hbb := heap_below hB h.blk hlt
  refine ⟨⟨by simpa using heap_setCell_same hbb 0 o, ?_, h.hb, hr, hl, h.max, h.ne5⟩, (Frame1.of_below hB).trans (Frame1.setCell _ _ _)⟩
  refine (hO.of_heap fun g hg => ?_).weaken (by have := h.hb; omega)
  obtain ⟨hg1, c, hc⟩ := hO.block g hg
  exact Below.heap_setCell _ _ _ _ (by rintro rfl; omega)
theorem QIs.cells {w wr : World} {t : TypeId} {base b : Nat} {v : Value} {xs : List Int} {most : Nat} {skip : Bool} (h : QIs w t base b v xs most skip) (hB : Below w.heap.size w wr) :
    wr.cell? ⟨b, 0, none⟩ = some v ∧ wr.cell? ⟨b, 1, none⟩ = some (.int .i64 most) ∧ wr.cell? ⟨b, 2, none⟩ = some (.bool skip) ∧ wr.frozen? ⟨b, 0, none⟩ = false ∧ wr.frozen? ⟨b, 2, none⟩ = false :=
  have hbb := heap_below hB h.blk (ltOf h.blk)
  ⟨cellOf hbb 0 rfl, cellOf hbb 1 rfl, cellOf hbb 2 rfl, frozenOf hbb 0, frozenOf hbb 2⟩
theorem QIs.nth {w wr : World} {t : TypeId} {base b g off cap : Nat} {xs : List Int} {most : Nat} {skip : Bool} (h : QIs w t base b (.slice (some ⟨g, off, none⟩) xs.length cap) xs most skip) (hB : Below w.heap.size w wr) (j : Nat) (hj : j < xs.length) :
    wr.cell? ⟨g, off + j, none⟩ = some (.int .u8 xs[j]) :=
  below_cell hB (Nat.le_refl _) _ _ (OwnMid.cell h.own j _ (by simp [hj]))

theorem take_drop_snoc {α : Type} (xs : List α) (k j : Nat) (hk : k ≤ j) (hj : j < xs.length) : (xs.drop k).take (j + 1 - k) = (xs.drop k).take (j - k) ++ [xs[j]] := by
  rw [show j + 1 - k = (j - k) + 1 by omega, List.take_add_one]
  rw [List.getElem?_drop, show k + (j - k) = j by omega, List.getElem?_eq_getElem hj]
  rfl

set_option maxHeartbeats 1000000 in
theorem rdrop_any (base b : Nat) (v : Value) (xs : List Int) (most : Nat) (skip : Bool) (k : Nat) (w : World) (h : QIs w 44 base b v xs most skip) :
    Calls Try.prog 26 #[.pointer (some ⟨b, 0, none⟩), .int .i64 k] w fun e w' => e = .returned (.tuple #[]) ∧ (∃ v', QIs w' 44 base b v' (xs.drop k) most skip) ∧ Frame1 b w w' := by
  have H := hidp h
  have hl := h.len
  have hm := h.max
  obtain ⟨i0, hi0, hz0, hz1, hz2⟩ := info_parts Try.info5
  obtain ⟨a, c, rfl⟩ := h.own.slice
  clear h
  go_enter Try.func26, Try.ntmps26
  go_wp2
  go_loopw [4, 5] (fun o i wr => ∃ j : Nat, k ≤ j ∧ (j ≤ xs.length ∨ j = k) ∧ i = .int .i64 j ∧ Hid (OwnMid wr w.heap.size 5 o (j - k) (((xs.drop k).take (j - k)).map (Value.int .u8))) ∧ Below w.heap.size w wr) (fun _ i _ => xs.length - (intOf i).toNat)
  case atStart => exact ⟨k, by omega, by omega, rfl, by rw [Nat.sub_self]; exact OwnMid.nil _ _ _, Below.refl _ _⟩
  case round =>
    obtain ⟨j, hkj, hj, rfl, HO, hB⟩ := hrel
    obtain ⟨c0, -, -, f0, -⟩ := H.out.cells hB
    by_cases hlt : j < xs.length
    · obtain ⟨g, off, cap, hv, -⟩ := H.out.at_pos (by omega)
      cases hv
      have cx := H.out.nth hB j hlt
      have l1 : (j : Int) < (xs.length : Int) := by omega
      have hts := take_drop_snoc xs k j hkj hlt
      obtain ⟨x, hx⟩ : ∃ x, x = xs[j] := ⟨_, rfl⟩
      rw [← hx] at cx hts
      have HT := hidp hts
      clear hts hx
      go_wp2_with (first
        | (at_builtin
           refine wpList_append1_mid (n := j - k) rfl (.tmp 16) (.tmp 24) 27 rfl i0 (.int .u8 0) 1 Try.underlying27 hi0 hz0 hz1 hz2 rfl rfl HO.out (.int .u8 x) _ rfl rfl rfl (by omega) (by decide) hB.size ?_
           intro v1 w1 hown1 hg1
           have H1 := hidp (And.intro hown1 (hB.grown hg1 hB.size (fun g hg => (HO.out.block g hg).1)))
           clear hown1 hg1))
      go_roundw
      case rel => exact ⟨j + 1, by omega, by omega, by go_num, by rw [HT.out, List.map_append, show j + 1 - k = j - k + 1 by omega]; exact H1.out.1, H1.out.2⟩
      case measure => simp [intOf]; omega
    · have l1 : ¬ (j : Int) < (xs.length : Int) := by omega
      obtain ⟨ao, co, rfl⟩ := HO.out.slice
      go_wp2
      go_returns
      have hd : (xs.drop k).take (j - k) = xs.drop k := List.take_of_length_le (by simp; omega)
      have hlen : (xs.drop k).length = j - k := by simp; omega
      obtain ⟨q1, q2⟩ := H.out.put (ys := xs.drop k) hB (by rw [hlen]; rw [hd] at HO; exact HO.out) (fun x hx => H.out.rng x (List.mem_of_mem_drop hx)) (by rw [hlen]; omega)
      exact ⟨rfl, ⟨_, q1⟩, q2⟩

/-- the first line's end is looked for from j on -/
def NlFrom (xs : List Int) (j : Nat) : Prop := nlAt xs = (nlAt (xs.drop j)).map (· + j)
theorem nlFrom_zero (xs : List Int) : NlFrom xs 0 := by unfold NlFrom; simp
theorem nlFrom_hit {xs : List Int} {j : Nat} (h : NlFrom xs j) (hj : j < xs.length) (hx : xs[j] = 10) : nlAt xs = some j := by
  unfold NlFrom at h
  rw [h, List.drop_eq_getElem_cons hj]
  simp [nlAt, hx]
theorem nlFrom_step {xs : List Int} {j : Nat} (h : NlFrom xs j) (hj : j < xs.length) (hx : ¬ xs[j] = 10) : NlFrom xs (j + 1) := by
  unfold NlFrom at h ⊢
  rw [h, List.drop_eq_getElem_cons hj]
  simp only [nlAt, if_neg hx, Option.map_map]
  congr 1
  funext i
  show i + 1 + j = i + (j + 1)
  omega
theorem nlFrom_end {xs : List Int} {j : Nat} (h : NlFrom xs j) (hj : ¬ j < xs.length) : nlAt xs = none := by
  unfold NlFrom at h
  rw [h, List.drop_eq_nil_of_le (by omega)]
  rfl
theorem nlFrom_ge {xs : List Int} {j i : Nat} (h : NlFrom xs j) (hi : nlAt xs = some i) : j ≤ i := by
  unfold NlFrom at h
  rw [hi] at h
  obtain ⟨k, _, hk⟩ := Option.map_eq_some_iff.1 h.symm
  omega

theorem QIs.skipTo {w : World} {t : TypeId} {base b : Nat} {v : Value} {xs : List Int} {most : Nat} {skip : Bool} (h : QIs w t base b v xs most skip) (s : Bool) :
    QIs (w.setCell ⟨b, 2, none⟩ (.bool s)) t base b v xs most s ∧ Frame1 b w (w.setCell ⟨b, 2, none⟩ (.bool s)) := by
  refine ⟨⟨by simpa using heap_setCell_same h.blk 2 (.bool s), h.own.of_heap fun g hg => ?_, h.hb, h.rng, h.len, h.max, h.ne5⟩, Frame1.setCell _ _ _⟩
  obtain ⟨_, cur, hh⟩ := h.own.block g hg
  exact Below.heap_setCell _ _ _ _ (by rintro rfl; have := h.blk; rw [hh] at this; cases this; exact h.ne5 rfl)

set_option maxHeartbeats 1000000 in
theorem rpass_any (base b : Nat) (v : Value) (xs : List Int) (most : Nat) (skip : Bool) (w : World) (h : QIs w 44 base b v xs most skip) :
    Calls Try.prog 25 #[.pointer (some ⟨b, 0, none⟩)] w fun e w' => e = .returned (.tuple #[]) ∧ (∃ v', QIs w' 44 base b v' (passX xs) most (passS xs skip)) ∧ Frame1 b w w' := by
  have H := hidp h
  have hl := h.len
  have hm := h.max
  obtain ⟨a, c, rfl⟩ := h.own.slice
  clear h
  obtain ⟨c0, -, -, f0, -⟩ := H.out.cells (Below.refl _ _)
  go_enter Try.func25, Try.ntmps25
  go_wp2
  go_loop [2] (fun i => ∃ j : Nat, j ≤ xs.length ∧ i = .int .i64 j ∧ Hid (NlFrom xs j)) (fun i => xs.length - (intOf i).toNat)
  case atStart => exact ⟨0, by omega, rfl, nlFrom_zero xs⟩
  case round =>
    obtain ⟨j, hj, rfl, HN⟩ := hrel
    by_cases hlt : j < xs.length
    · obtain ⟨g, off, cap, hv, -⟩ := H.out.at_pos (by omega)
      cases hv
      have cx := H.out.nth (Below.refl _ _) j hlt
      have l1 : (j : Int) < (xs.length : Int) := by omega
      by_cases hx : xs[j] = 10
      · have HF := hidp (nlFrom_hit HN.out hlt hx)
        rw [hx] at cx
        clear hx
        go_wp2_with fail
        refine (rdrop_any base b _ xs most skip (j + 1) w H.out).mono ?_
        rintro e w1 ⟨rfl, ⟨v1, Q1⟩, F1⟩
        obtain ⟨-, -, d2, -, f2⟩ := Q1.cells (Below.refl _ _)
        have H1 := hidp (And.intro Q1 F1)
        clear Q1 F1
        go_wp2
        go_returns
        obtain ⟨q1, q2⟩ := H1.out.1.skipTo false
        have e1 : passX xs = xs.drop (j + 1) := by unfold passX; rw [HF.out]
        have e2 : passS xs skip = false := by unfold passS; rw [HF.out]; rfl
        rw [e1, e2]
        exact ⟨rfl, ⟨_, q1⟩, H1.out.2.trans q2⟩
      · have HF := hidp (nlFrom_step HN.out hlt hx)
        obtain ⟨x, hx'⟩ : ∃ x, x = xs[j] := ⟨_, rfl⟩
        rw [← hx'] at cx hx
        clear hx'
        go_wp2
        go_round
        case rel => exact ⟨j + 1, by omega, by go_num, HF⟩
        case measure => simp [intOf]; omega
    · have l1 : ¬ (j : Int) < (xs.length : Int) := by omega
      have HF := hidp (nlFrom_end HN.out hlt)
      go_wp2
      go_returns
      obtain ⟨q1, q2⟩ := H.out.put (ys := []) (o := .slice none 0 0) (Below.refl _ _) (OwnMid.nil _ _ _) (by simp) (by simp)
      have e1 : passX xs = [] := by unfold passX; rw [HF.out]
      have e2 : passS xs skip = skip := by unfold passS; rw [HF.out]; rfl
      rw [e1, e2]
      exact ⟨rfl, ⟨_, q1⟩, q2⟩

theorem OwnMid.frame1 {w w' : World} {base b : Nat} {e : TypeId} {n : Nat} {v : Value} {xs : List Value} (h : OwnMid w base e v n xs) (F : Frame1 b w w') (hb : b < base) : OwnMid w' base e v n xs :=
  h.of_heap fun g hg => by obtain ⟨h1, c, hc⟩ := h.block g hg; exact F.block g (ltOf hc) (by omega)

set_option maxHeartbeats 4000000 in
theorem rtake_any (base b : Nat) (v : Value) (xs : List Int) (most : Nat) (skip : Bool) (n : Int) (w : World) (h : QIs w 44 base b v xs most skip) :
    Calls Try.prog 18 #[.pointer (some ⟨b, 0, none⟩), .int .i64 n] w fun e w' => ∃ v', e = .returned v' ∧ OwnMid w' w.heap.size 5 v' (takeN xs n) ((xs.take (takeN xs n)).map (Value.int .u8)) ∧ (∃ v'', QIs w' 44 base b v'' (xs.drop (takeN xs n)) most skip) ∧ Frame1 b w w' := by
  have H := hidp h
  have hl := h.len
  have hm := h.max
  have hblt := ltOf h.blk
  obtain ⟨i0, hi0, hz0, hz1, hz2⟩ := info_parts Try.info5
  obtain ⟨a, c, rfl⟩ := h.own.slice
  clear h
  obtain ⟨T, hT⟩ : ∃ T, T = takeN xs n := ⟨_, rfl⟩
  rw [← hT]
  unfold takeN at hT
  have hTn : n ≤ (T : Int) ∨ ((T : Int) < n ∧ ¬ (T : Int) < (xs.length : Int)) := by omega
  have hTl : T ≤ xs.length := by omega
  have hTi : (T : Int) ≤ n ∨ T = 0 := by omega
  have HTl := hidp (And.intro hTl hTi)
  clear hT hTl hTi
  go_enter Try.func18, Try.ntmps18
  go_wp2
  go_loopw [5, 6] (fun o i wr => ∃ j : Nat, j ≤ T ∧ i = .int .i64 j ∧ Hid (OwnMid wr w.heap.size 5 o j ((xs.take j).map (Value.int .u8))) ∧ Below w.heap.size w wr) (fun _ i _ => T - (intOf i).toNat)
  case atStart => exact ⟨0, by omega, rfl, OwnMid.nil _ _ _, Below.refl _ _⟩
  case round =>
    obtain ⟨j, hj, rfl, HO, hB⟩ := hrel
    obtain ⟨c0, -, -, f0, -⟩ := H.out.cells hB
    by_cases hlt : j < T
    · obtain ⟨hTl, hTi⟩ := HTl.out
      obtain ⟨g, off, cap, hv, -⟩ := H.out.at_pos (by omega)
      cases hv
      have hjl : j < xs.length := by omega
      have cx := H.out.nth hB j hjl
      have l1 : (j : Int) < (xs.length : Int) := by omega
      have l2 : (j : Int) < n := by omega
      have hts : xs.take (j + 1) = xs.take j ++ [xs[j]] := by rw [List.take_add_one, List.getElem?_eq_getElem hjl]; rfl
      obtain ⟨x, hx⟩ : ∃ x, x = xs[j] := ⟨_, rfl⟩
      rw [← hx] at cx hts
      have HT := hidp hts
      clear hts hx
      go_wp2_with (first
        | (at_builtin
           refine wpList_append1_mid (n := j) rfl (.tmp 21) (.tmp 29) 27 rfl i0 (.int .u8 0) 1 Try.underlying27 hi0 hz0 hz1 hz2 rfl rfl HO.out (.int .u8 x) _ rfl rfl rfl (by omega) (by decide) hB.size ?_
           intro v1 w1 hown1 hg1
           have H1 := hidp (And.intro hown1 (hB.grown hg1 hB.size (fun g hg => (HO.out.block g hg).1)))
           clear hown1 hg1))
      go_roundw
      case rel => exact ⟨j + 1, by omega, by go_num, by rw [HT.out, List.map_append]; exact H1.out.1, H1.out.2⟩
      case measure => simp [intOf]; omega
    · obtain rfl : j = T := by omega
      obtain ⟨ao, co, rfl⟩ := HO.out.slice
      have hfin : ∀ w1 : World, (∃ v1, QIs w1 44 base b v1 (xs.drop j) most skip) → Frame1 b wr w1 → OwnMid w1 w.heap.size 5 (.slice ao j co) j ((xs.take j).map (Value.int .u8)) ∧ (∃ v1, QIs w1 44 base b v1 (xs.drop j) most skip) ∧ Frame1 b w w1 :=
        fun w1 q F => ⟨HO.out.frame1 F hblt, q, Frame1.mono_below hB (Nat.le_refl _) F⟩
      have HQ := hidp (H.out.below hB (Nat.le_refl _))
      have FIN := hidp hfin
      clear hfin
      rcases hTn with l1 | ⟨l1, l3⟩
      · have l2 : ¬ (j : Int) < n := by omega
        go_wp2_with (first | (go_at_call 26; refine (rdrop_any base b _ xs most skip j wr HQ.out).mono ?_; rintro e w1 ⟨rfl, q1, F1⟩; have F := hidp (FIN.out w1 q1 F1); clear q1 F1))
        go_ret
        exact ⟨_, rfl, F.out⟩
      · go_wp2_with (first | (go_at_call 26; refine (rdrop_any base b _ xs most skip j wr HQ.out).mono ?_; rintro e w1 ⟨rfl, q1, F1⟩; have F := hidp (FIN.out w1 q1 F1); clear q1 F1))
        go_ret
        exact ⟨_, rfl, F.out⟩
end Go.Proofs.Ytfcfckcpmjccoaa
