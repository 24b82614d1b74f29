/- What the program's queue does, further: Put and Line. -/
import Derived.Test.YtfcfckcpmjccoaaQI
import Derived.Deep.DeepCutAuto
namespace Go.Proofs.Ytfcfckcpmjccoaa
open Go.RowKit

/-- A slice that is read alone: the bytes bs. -/
def Src (w : World) (a : Option Addr) (c : Nat) (bs : List Int) : Prop :=
  bs.length ≤ c ∧ (0 < bs.length → ∃ ad, a = some ad ∧ ∀ j u, (bs.map (Value.int .u8))[j]? = some u → w.cell? (ad.add j) = some u)
theorem Src.below {w w' : World} {a : Option Addr} {c : Nat} {bs : List Int} (h : Src w a c bs) (hb : Below w.heap.size w w') : Src w' a c bs :=
  ⟨h.1, fun hp => by obtain ⟨ad, h1, h2⟩ := h.2 hp; exact ⟨ad, h1, fun j u hu => below_cell hb (Nat.le_refl _) _ _ (h2 j u hu)⟩⟩
theorem Src.drew {w : World} {a : Option Addr} {c : Nat} {bs : List Int} (h : Src w a c bs) : Src w.drew a c bs := h.below (Below.refl _ _).drew

theorem splice0 {α : Type} (L X : List α) : splice L 0 X = X ++ L.drop X.length := by simp [splice]
theorem splice2 {α : Type} (L X Y : List α) : (splice (splice L 0 X) X.length Y).take (X.length + Y.length) = X ++ Y := by
  rw [splice0]
  unfold splice
  rw [show (X ++ L.drop X.length).take X.length = X by simp, ← List.append_assoc, List.take_append_of_le_length (by simp), List.take_of_length_le (by simp)]

theorem put_zero (base b : Nat) (v : Value) (xs : List Int) (most : Nat) (skip : Bool) (a : Option Addr) (c : Nat) (bs : List Int) (w : World) (h : QIs w 48 base b v xs most skip) (h0 : putN xs most bs = 0) :
    Calls Try.prog 9 #[.pointer (some ⟨b, 0, none⟩), .slice a bs.length c] w fun e w' => e = .returned (.int .i64 0) ∧ Below w.heap.size w w' := by
  have hl := h.len
  have hm := h.max
  have H := hidp h
  clear h
  unfold putN at h0
  have hcase : (bs.length = 0 ∧ 0 < (most : Int) - (xs.length : Int)) ∨ ((most : Int) - (xs.length : Int) = 0 ∧ bs.length = 0) ∨ ((most : Int) - (xs.length : Int) = 0 ∧ 0 < bs.length) := by omega
  have hcase : (bs.length = 0 ∧ 0 < (most : Int) - (xs.length : Int)) ∨ (Hid ((most : Int) - (xs.length : Int) = 0) ∧ bs.length = 0) ∨ (Hid ((most : Int) - (xs.length : Int) = 0) ∧ 0 < bs.length) := hcase
  rcases hcase with ⟨h1, h2⟩ | ⟨hr, h2⟩ | ⟨hr, h2⟩
  all_goals
    clear h0
    go_enter Try.func9, Try.ntmps9
    go_wp2_with (first | (go_at_call 22; refine (room_any base b _ xs most skip w H.out).mono ?_; rintro e w1 ⟨rfl, hB⟩; try rw [hr.out]))
    go_ret
    exact ⟨rfl, hB⟩

theorem keepQ {w W : World} {b : Nat} {v : Value} {skip : Bool} (HC : Hid (∀ w2 : World, Below w.heap.size w w2 → w2.cell? ⟨b, 0, none⟩ = some v ∧ w2.cell? ⟨b, 2, none⟩ = some (.bool skip) ∧ w2.frozen? ⟨b, 0, none⟩ = false))
    (hB : Below w.heap.size w W) : W.cell? ⟨b, 0, none⟩ = some v ∧ Below w.heap.size w W := ⟨(HC.out W hB).1, hB⟩
set_option maxHeartbeats 4000000 in
theorem put_pos' (base b : Nat) (v : Value) (xs : List Int) (most : Nat) (skip : Bool) (a : Option Addr) (c : Nat) (bs : List Int) (w : World) (h : QIs w 48 base b v xs most skip) (hS : Src w a c bs) (hbs : ∀ x ∈ bs, 0 ≤ x ∧ x ≤ 255) (n : Nat) (h0 : putN xs most bs = n) (hp : 0 < n) :
    Calls Try.prog 9 #[.pointer (some ⟨b, 0, none⟩), .slice a bs.length c] w fun e w' => e = .returned (.int .i64 n) ∧ (∃ v', QIs w' 48 base b v' (putX xs most skip bs) most (putS xs most skip bs) ∧ (skip = false → ∀ g, v'.ownBlock = some g → w.heap.size ≤ g)) ∧ Frame1 b w w' := by
  have hl := h.len
  have hm := h.max
  have H := hidp h
  have hX' : putX xs most skip bs = if skip = true then passX (xs ++ bs.take n) else xs ++ bs.take n := by unfold putX; rw [h0]; cases skip <;> simp [hp]
  have hS' : putS xs most skip bs = if skip = true then passS (xs ++ bs.take n) skip else skip := by unfold putS; rw [h0]; cases skip <;> simp [hp]
  rw [hX', hS']
  clear hX' hS'
  have hblt : b < w.heap.size := ltOf h.blk
  obtain ⟨q, qc, rfl⟩ := h.own.slice
  unfold putN at h0
  obtain ⟨nb, hnb⟩ : ∃ nb, nb = bs.length := ⟨_, rfl⟩
  rw [← hnb] at h0 ⊢
  obtain ⟨i0, hi0, hz0, hz1, hz2⟩ := info_parts Try.info5
  obtain ⟨X, hX⟩ : ∃ X, X = xs.map (Value.int .u8) := ⟨_, rfl⟩
  obtain ⟨Y, hY⟩ : ∃ Y, Y = (bs.take n).map (Value.int .u8) := ⟨_, rfl⟩
  have hXl : X.length = xs.length := by rw [hX]; simp
  have hYl : Y.length = n := by rw [hY]; simp; omega
  have hcb : n ≤ c := by have := hS.1; omega
  have srcX : ∀ w2, Below w.heap.size w w2 → 0 < X.length → ∃ ad, q = some ad ∧ ∀ j u, X[j]? = some u → w2.cell? (ad.add j) = some u := by
    intro w2 hB hp'
    obtain ⟨ad, h1, h2⟩ := h.own.source q qc rfl xs.length (by simp; omega)
    refine ⟨ad, h1, fun j u hu => below_cell hB (Nat.le_refl _) _ _ (h2 j u ?_)⟩
    rw [← hu, hX, List.take_of_length_le (by simp)]
  have srcY : ∀ w2, Below w.heap.size w w2 → ∃ ad, a = some ad ∧ ∀ j u, Y[j]? = some u → w2.cell? (ad.add j) = some u := by
    intro w2 hB
    obtain ⟨ad, h1, h2⟩ := hS.2 (by omega)
    refine ⟨ad, h1, fun j u hu => below_cell hB (Nat.le_refl _) _ _ (h2 j u ?_)⟩
    rw [hY, List.map_take, List.getElem?_take] at hu
    split at hu
    · exact hu
    · cases hu
  have SX := hidp srcX
  have SY := hidp srcY
  have oneX : ∀ u ∈ X, u.oneCell' = true := by rw [hX]; exact one_u8 _
  have oneY : ∀ u ∈ Y, u.oneCell' = true := by rw [hY]; exact one_u8 _
  have HC : Hid (∀ w2 : World, Below w.heap.size w w2 → w2.cell? ⟨b, 0, none⟩ = some (.slice q xs.length qc) ∧ w2.cell? ⟨b, 2, none⟩ = some (.bool skip) ∧ w2.frozen? ⟨b, 0, none⟩ = false) :=
    fun w2 hB2 => ⟨cellOf (heap_below hB2 H.out.blk hblt) 0 rfl, cellOf (heap_below hB2 H.out.blk hblt) 2 rfl, frozenOf (heap_below hB2 H.out.blk hblt) 0⟩
  have fin : ∀ (w2 : World) (L : List Value) (g : Nat), Hid (w2.heap[g]? = some (.cells L.toArray 5 (0, 0))) → w.heap.size ≤ g → xs.length + n ≤ L.length → L.take (xs.length + n) = X ++ Y → Below w.heap.size w w2 →
      QIs (w2.setCell ⟨b, 0, none⟩ (.slice (some ⟨g, 0, none⟩) (xs.length + n) (xs.length + n))) 48 base b (.slice (some ⟨g, 0, none⟩) (xs.length + n) (xs.length + n)) (xs ++ bs.take n) most skip ∧
      Frame1 b w (w2.setCell ⟨b, 0, none⟩ (.slice (some ⟨g, 0, none⟩) (xs.length + n) (xs.length + n))) := by
    intro w2 L g hG hgs hL hT hB
    have hlen : (xs ++ bs.take n).length = xs.length + n := by simp; omega
    refine ⟨⟨by simpa using heap_setCell_same (heap_below hB H.out.blk hblt) 0 _, ?_, H.out.hb, ?_, by rw [hlen]; omega, hm, by decide⟩, (Frame1.of_below hB).trans (Frame1.setCell _ _ _)⟩
    · rw [hlen]
      refine OwnMid.of_cells (L := L) ?_ ?_ (by unfold maxLen; omega) hL ?_
      · rw [Below.heap_setCell _ _ _ _ (by simp; omega)]; exact hG.out
      · have := H.out.hb; omega
      · rw [hT, hX, hY, List.map_append]
    · intro x hx
      rcases List.mem_append.1 hx with hx | hx
      · exact H.out.rng x hx
      · exact hbs x (List.mem_of_mem_take hx)
  have hcase : ((nb : Int) ≤ (most : Int) - (xs.length : Int) ∧ n = nb) ∨ (((most : Int) - (xs.length : Int) = (n : Int)) ∧ n < nb) := by omega
  have hcase2 : ((nb : Int) ≤ (most : Int) - (xs.length : Int) ∧ n = nb) ∨ (Hid ((most : Int) - (xs.length : Int) = (n : Int)) ∧ n < nb) := hcase
  have hnM : n ≤ 65536 := by omega
  have hnc : ¬ n = 0 := by omega
  have hsl : (xs.length : Int) ≤ (xs.length : Int) + (n : Int) := by omega
  clear h hS srcX srcY hX hY h0 hnb hcase
  rcases hcase2 with ⟨h1, rfl⟩ | ⟨hr, h2⟩
  all_goals
    go_enter Try.func9, Try.ntmps9
    go_wp2_with (first
      | (go_at_call 22; refine (room_any base b _ xs most skip w H.out).mono ?_; rintro e w1 ⟨rfl, hB1⟩; obtain ⟨c1, _⟩ := HC.out w1 hB1; try rw [hr.out])
      | (refine wpList_make_full _ rfl (.tmp 20) (.tmp 20) 27 rfl w.heap.size 5 i0 (.int .u8 0) 1 Try.underlying27 hi0 hz0 hz1 .i64 .i64 _ _ (xs.length + n) rfl rfl (by omega) (by omega) (by rw [hz2]; omega) (by simp only [maxLen]; omega) hB1.size ?_
         intro w2 hown2 hg2
         have hB2 : Below w.heap.size w w2 := hB1.trans (((Below.refl _ _).grown hg2 (Nat.le_refl _) (by intro g hg; cases hg)).mono hB1.size)
         obtain ⟨hgb', cur, hcur, hcl, hcm'⟩ := made_cells hown2
         obtain ⟨c2, c2b, c2f⟩ := HC.out w2 hB2
         have C2 := hidp hcur
         have hsz1 := hB1.size
         clear hown2 hcur hg2 c1 hgb'))
    go_region_held3 (fun W => W.cell? ⟨b, 0, none⟩ = some (.slice q xs.length qc) ∧ Below w.heap.size w W) (first | exact keepQ HC (by assumption) | exact keepQ HC hB2.drew)
      (first
        | (refine step_copy_splice rfl (.tmp 23) (.tmp 27) 27 27 rfl 5 Try.underlying27 (by kernel_rfl) (some ⟨w1.heap.size, 0, none⟩) q (xs.length + n) (xs.length + n) xs.length qc rfl rfl w1.heap.size 0 cur 5 C2.out X (by rw [hXl]; exact (Nat.min_eq_left (by omega)).symm) (fun hp => ⟨rfl, SX.out _ hB2.drew hp⟩) (by omega) oneX w.heap.size w hB2.drew hsz1 ?_
           intro w3 hG3 hB3
           rw [hXl])
        | (refine step_copy_splice rfl (.tmp 29) (.tmp 32) 27 27 rfl 5 Try.underlying27 (by kernel_rfl) (some ⟨w1.heap.size, xs.length, none⟩) a n n n c rfl rfl w1.heap.size xs.length (splice cur 0 X) 5 hG3.out Y (by rw [hYl]; exact (Nat.min_self _).symm) (fun hp => ⟨rfl, SY.out _ hB3⟩) (by rw [length_splice _ _ _ (by omega)]; omega) oneY w.heap.size w hB3 hsz1 ?_
           intro w4 hG4 hB4))
    obtain ⟨c4, c4b, c4f⟩ := HC.out w4 hB4
    have FIN := hidp (fin w4 _ w1.heap.size hG4 hsz1 (by rw [length_splice _ _ _ (by rw [length_splice _ _ _ (by omega)]; omega), length_splice _ _ _ (by omega)]; exact hcl) (by rw [← hXl, ← hYl]; exact splice2 _ _ _) hB4)
    clear fin c2 c2b c2f
    cases skip
    · go_wp2
      go_ret
      exact ⟨rfl, ⟨_, FIN.out.1, fun gg hgg => by simp [Value.ownBlock] at hgg; omega⟩, FIN.out.2⟩
    · go_wp2_with (first | (go_at_call 23; refine (pass_any base b _ _ most true _ FIN.out.1).mono ?_; rintro e w5 ⟨rfl, ⟨v5, hQ5⟩, hF5⟩))
      go_ret
      exact ⟨rfl, ⟨v5, hQ5⟩, FIN.out.2.trans hF5⟩

theorem put_pos (base b : Nat) (v : Value) (xs : List Int) (most : Nat) (skip : Bool) (a : Option Addr) (c : Nat) (bs : List Int) (w : World) (h : QIs w 48 base b v xs most skip) (hS : Src w a c bs) (hbs : ∀ x ∈ bs, 0 ≤ x ∧ x ≤ 255) (n : Nat) (h0 : putN xs most bs = n) (hp : 0 < n) :
    Calls Try.prog 9 #[.pointer (some ⟨b, 0, none⟩), .slice a bs.length c] w fun e w' => e = .returned (.int .i64 n) ∧ (∃ v', QIs w' 48 base b v' (putX xs most skip bs) most (putS xs most skip bs)) ∧ Frame1 b w w' :=
  (put_pos' base b v xs most skip a c bs w h hS hbs n h0 hp).mono fun _ _ ⟨h1, ⟨v', h2, _⟩, h3⟩ => ⟨h1, ⟨v', h2⟩, h3⟩

theorem take_any (base b : Nat) (v : Value) (xs : List Int) (most : Nat) (skip : Bool) (n : Int) (w : World) (h : QIs w 48 base b v xs most skip) :
    Calls Try.prog 12 #[.pointer (some ⟨b, 0, none⟩), .int .i64 n] w fun e w' => ∃ v', e = .returned v' ∧ OwnMid w' w.heap.size 5 v' (takeN xs n) ((xs.take (takeN xs n)).map (Value.int .u8)) ∧ (∃ v'', QIs w' 48 base b v'' (xs.drop (takeN xs n)) most skip) ∧ Frame1 b w w' := by
  by_cases h0 : takeN xs n = 0
  · refine (take_zero base b v xs most skip n w h h0).mono ?_
    rintro e w' ⟨rfl, rfl⟩
    rw [h0]
    exact ⟨_, rfl, OwnMid.nil _ _ _, ⟨v, by simpa using h⟩, Frame1.refl _ _⟩
  · exact take_pos base b v xs most skip n _ w h rfl (by omega)
theorem line_nil (n : Int) (w : World) : Calls Try.prog 10 #[.pointer none, .int .i64 n] w fun e w' => e = .returned (.tuple #[.slice none 0 0, .bool false, .bool false]) ∧ w = w' := by
  go_enter Try.func10, Try.ntmps10
  go_wp2
  go_returns
  exact ⟨rfl, rfl⟩

set_option maxHeartbeats 2000000 in
theorem line_yes (base b : Nat) (v : Value) (xs : List Int) (most : Nat) (skip : Bool) (n : Int) (i : Nat) (w : World) (h : QIs w 48 base b v xs most skip) (hi : nlAt xs = some i) (hin : i ≤ n.toNat) :
    Calls Try.prog 10 #[.pointer (some ⟨b, 0, none⟩), .int .i64 n] w fun e w' => ∃ v', e = .returned (.tuple #[v', .bool true, .bool false]) ∧ OwnMid w' w.heap.size 5 v' i ((xs.take i).map (Value.int .u8)) ∧ (∃ v'', QIs w' 48 base b v'' (xs.drop (i + 1)) most skip) ∧ Frame1 b w w' := by
  have hI : Hid (nlI xs = i) := by show nlI xs = _; unfold nlI; rw [hi]
  have hlt := nlAt_lt xs i hi
  have hl := h.len
  have hm := h.max
  have H := hidp h
  have hblt : b < w.heap.size := ltOf h.blk
  have c0 := cellOf h.blk 0 (v := v) rfl
  have e1 : Hid (takeN xs i = i) := by show _ = _; unfold takeN; omega
  have e2 : Hid (takeN (xs.drop i) 1 = 1) := by show _ = _; unfold takeN; simp; omega
  have e3 : Hid ((xs.drop i).drop 1 = xs.drop (i + 1)) := by show _ = _; rw [List.drop_drop]
  clear h hi
  have hcase : (n < 0 ∧ i = 0) ∨ (0 ≤ n ∧ (i : Int) ≤ n) := by omega
  rcases hcase with ⟨h1, rfl⟩ | ⟨h1, h2⟩
  all_goals
    go_enter Try.func10, Try.ntmps10
    go_wp2_with fail
    refine (index_any base _ xs w H.out.own H.out.rng).mono ?_
    rintro e w1 ⟨rfl, rfl⟩
    rw [hI.out]
    go_wp2_with fail
    refine (take_any base b _ xs most skip _ w H.out).mono ?_
    rintro e w2 ⟨v2, rfl, hO2, ⟨u2, hQ2⟩, hF2⟩
    first | rw [e1.out] at hO2 hQ2 | rw [show takeN xs 0 = 0 from e1.out] at hO2 hQ2
    have H2 := hidp (And.intro hO2 (And.intro hQ2 hF2))
    clear hO2 hQ2 hF2
    go_wp2_with fail
    refine (take_any base b _ _ most skip 1 w2 H2.out.2.1).mono ?_
    rintro e w3 ⟨v3, rfl, hO3, ⟨u3, hQ3⟩, hF3⟩
    rw [e2.out, e3.out] at hQ3
    have H3 := hidp (And.intro hQ3 hF3)
    clear hO3 hQ3 hF3
    go_wp2
    go_returns
    refine ⟨v2, rfl, H2.out.1.of_heap fun g hg => ?_, ⟨u3, H3.out.1⟩, H2.out.2.2.trans H3.out.2⟩
    obtain ⟨hgb, cur, hh⟩ := H2.out.1.block g hg
    exact H3.out.2.block g (ltOf hh) (by omega)

set_option maxHeartbeats 2000000 in
theorem line_long (base b : Nat) (v : Value) (xs : List Int) (most : Nat) (skip : Bool) (n : Int) (w : World) (h : QIs w 48 base b v xs most skip) (hi : (∃ i, nlAt xs = some i ∧ n.toNat < i) ∨ (nlAt xs = none ∧ n.toNat < xs.length)) :
    Calls Try.prog 10 #[.pointer (some ⟨b, 0, none⟩), .int .i64 n] w fun e w' => e = .returned (.tuple #[.slice none 0 0, .bool true, .bool true]) ∧ (∃ v'', QIs w' 48 base b v'' (passX xs) most (passS xs true)) ∧ Frame1 b w w' := by
  have hl := h.len
  have hm := h.max
  have H := hidp h
  have hblt : b < w.heap.size := ltOf h.blk
  obtain ⟨q, qc, rfl⟩ := h.own.slice
  have c0 := cellOf h.blk 0 (v := .slice q xs.length qc) rfl
  have c2 := cellOf h.blk 2 (v := .bool skip) rfl
  have fr2 := frozenOf h.blk 2
  have hq : Hid (QIs (w.setCell ⟨b, 2, none⟩ (.bool true)) 48 base b (.slice q xs.length qc) xs most true) := by
    refine ⟨by simpa using heap_setCell_same h.blk 2 (.bool true), h.own.of_heap fun g hg => ?_, h.hb, h.rng, hl, hm, by decide⟩
    obtain ⟨_, cur, hh⟩ := h.own.block g hg
    rw [Below.heap_setCell _ _ _ _ (by rintro rfl; have := h.blk; rw [hh] at this; cases this)]
  clear h
  have hcase : (∃ I : Int, Hid (nlI xs = I) ∧ 0 ≤ I ∧ ((n < 0 ∧ 0 < I) ∨ (0 ≤ n ∧ n < I))) ∨ (Hid (nlI xs = -1) ∧ ((n < 0 ∧ 0 < xs.length) ∨ (0 ≤ n ∧ n < xs.length))) := by
    rcases hi with ⟨i, h1, h2⟩ | ⟨h1, h2⟩
    · exact .inl ⟨i, by show nlI xs = _; unfold nlI; rw [h1], by omega, by omega⟩
    · exact .inr ⟨by show nlI xs = _; unfold nlI; rw [h1], by omega⟩
  clear hi
  rcases hcase with ⟨I, hI, hI0, ⟨h1, h2⟩ | ⟨h1, h2⟩⟩ | ⟨hI, ⟨h1, h2⟩ | ⟨h1, h2⟩⟩
  all_goals
    go_enter Try.func10, Try.ntmps10
    go_wp2_with fail
    refine (index_any base _ xs w H.out.own H.out.rng).mono ?_
    rintro e w1 ⟨rfl, rfl⟩
    rw [hI.out]
    go_wp2_with fail
    refine (pass_any base b _ xs most true _ hq.out).mono ?_
    rintro e w2 ⟨rfl, hQ2, hF2⟩
    go_wp2
    go_returns
    exact ⟨rfl, hQ2, (Frame1.setCell _ _ _).trans hF2⟩

set_option maxHeartbeats 2000000 in
theorem line_none (base b : Nat) (v : Value) (xs : List Int) (most : Nat) (skip : Bool) (n : Int) (w : World) (h : QIs w 48 base b v xs most skip) (hi : nlAt xs = none) (hn : xs.length ≤ n.toNat) :
    Calls Try.prog 10 #[.pointer (some ⟨b, 0, none⟩), .int .i64 n] w fun e w' => e = .returned (.tuple #[.slice none 0 0, .bool false, .bool false]) ∧ w = w' := by
  have hl := h.len
  have hm := h.max
  have H := hidp h
  obtain ⟨q, qc, rfl⟩ := h.own.slice
  have c0 := cellOf h.blk 0 (v := .slice q xs.length qc) rfl
  have hI : Hid (nlI xs = -1) := by show nlI xs = _; unfold nlI; rw [hi]
  clear h hi
  have hcase : (n < 0 ∧ ¬ 0 < xs.length) ∨ (0 ≤ n ∧ (xs.length : Int) ≤ n) := by omega
  rcases hcase with ⟨h1, h2⟩ | ⟨h1, h2⟩
  all_goals
    go_enter Try.func10, Try.ntmps10
    go_wp2_with fail
    refine (index_any base _ xs w H.out.own H.out.rng).mono ?_
    rintro e w1 ⟨rfl, rfl⟩
    rw [hI.out]
    go_wp2
    go_returns
    exact ⟨rfl, rfl⟩
end Go.Proofs.Ytfcfckcpmjccoaa
