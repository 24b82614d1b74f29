/- What the program's queue does, function by function. -/
import Derived.Test.YtfcfckcpmjccoaaRows
import Derived.Test.YtfcfckcpmjccoaaQB
import Derived.Lib.BytesEntry
import Derived.Laws.CopyOwn
import Derived.Deep.QuietTactic
import Derived.Deep.Cut
namespace Go.Proofs.Ytfcfckcpmjccoaa
open Go.RowKit

theorem Try.info5 : (Try.prog.info? 5).map (fun i => (i.zero, i.size, i.bytes)) = some (some (.int .u8 0), 1, 1) := by kernel_rfl

theorem index_any (base : Nat) (v : Value) (xs : List Int) (w : World) (h : OwnMid w base 5 v xs.length (xs.map (Value.int .u8))) (hr : ∀ x ∈ xs, 0 ≤ x ∧ x ≤ 255) :
    Calls Try.prog 24 #[v, .int .u8 10] w fun e w' => e = .returned (.int .i64 (nlI xs)) ∧ w = w' := by
  have hI := indexByte_eq xs hr
  have hrun : (Extern.BytealgIndexByte.indexByte #[v, .int .u8 10]).run Try.prog w = .ok (.int .i64 (nlI xs)) w := by
    rw [← hI]
    rcases h.2 with ⟨rfl, h0⟩ | ⟨g, off, cap, cur, rfl, _⟩
    · obtain rfl : xs = [] := List.eq_nil_of_length_eq_zero h0
      exact Lib.run_indexByteNil w 0 0 10
    · exact Lib.run_indexByteSlice w g off xs.length cap xs rfl (fun i hi => by
        rw [OwnMid.cell h i (.int .u8 xs[i]) (by simp [hi])]
        simp [List.getD, hi]) 10
  clear hI h
  go_enter Try.func24, Try.ntmps24
  go_wp2
  rw [run_callFunc_extern Try.func27 (by kernel_rfl) (by kernel_rfl) (by kernel_rfl) (e := Extern.BytealgIndexByte.indexByte) (by kernel_rfl), hrun]
  simp only [Result.andThen]
  rw [Oper.upon_value]
  go_wp2
  go_ret
  exact ⟨rfl, rfl⟩

theorem len_any (base b : Nat) (v : Value) (xs : List Int) (most : Nat) (skip : Bool) (w : World) (h : QIs w 48 base b v xs most skip) :
    Calls Try.prog 11 #[.pointer (some ⟨b, 0, none⟩)] w fun e w' => e = .returned (.int .i64 xs.length) ∧ w = w' := by
  obtain ⟨a, c, rfl⟩ := h.own.slice
  have c0 := cellOf h.blk 0 (v := .slice a xs.length c) rfl
  go_enter Try.func11, Try.ntmps11
  go_wp2
  go_ret
  exact ⟨rfl, rfl⟩
theorem len_nil (w : World) : Calls Try.prog 11 #[.pointer none] w fun e w' => e = .returned (.int .i64 0) ∧ w = w' := by
  go_enter Try.func11, Try.ntmps11
  go_wp2
  go_ret
  exact ⟨rfl, rfl⟩
theorem room_any (base b : Nat) (v : Value) (xs : List Int) (most : Nat) (skip : Bool) (w : World) (h : QIs w 48 base b v xs most skip) :
    Calls Try.prog 22 #[.pointer (some ⟨b, 0, none⟩)] w fun e w' => e = .returned (.int .i64 ((most : Int) - xs.length)) ∧ Below w.heap.size w w' := by
  obtain ⟨a, c, rfl⟩ := h.own.slice
  have c0 := cellOf h.blk 0 (v := .slice a xs.length c) rfl
  have c1 := cellOf h.blk 1 (v := .int .i64 most) rfl
  have hl := h.len
  have hm := h.max
  clear h
  go_enter Try.func22, Try.ntmps22
  go_wp2
  go_quiet (fail)
  go_wp2
  go_ret
  exact ⟨rfl, below_drewN (Below.refl _ _) _⟩
theorem room_nil (w : World) : Calls Try.prog 22 #[.pointer none] w fun e w' => e = .returned (.int .i64 0) ∧ w = w' := by
  go_enter Try.func22, Try.ntmps22
  go_wp2
  go_ret
  exact ⟨rfl, rfl⟩

set_option maxHeartbeats 2000000 in
theorem pass_any (base b : Nat) (v : Value) (xs : List Int) (most : Nat) (skip : Bool) (w : World) (h : QIs w 48 base b v xs most skip) :
    Calls Try.prog 23 #[.pointer (some ⟨b, 0, none⟩)] w fun e w' => e = .returned (.tuple #[]) ∧ (∃ v', QIs w' 48 base b v' (passX xs) most (passS xs skip)) ∧ Frame1 b w w' := by
  have H := hidp h
  have hl := h.len
  have hm := h.max
  have fr := frozenOf h.blk 0
  have fr2 := frozenOf h.blk 2
  unfold passX passS
  cases hn : nlAt xs with
  | none =>
    have hi : Hid (nlI xs = -1) := by show nlI xs = -1; unfold nlI; rw [hn]
    have c0 := cellOf h.blk 0 (v := v) rfl
    clear hn
    go_enter Try.func23, Try.ntmps23
    go_wp2_with fail
    refine (index_any base _ xs w H.out.own H.out.rng).mono ?_
    rintro e w1 ⟨rfl, rfl⟩
    rw [hi.out]
    go_wp2
    go_returns
    exact ⟨rfl, ⟨.slice none 0 0, by simpa using heap_setCell_same H.out.blk 0 (.slice none 0 0), OwnMid.nil _ _ _, H.out.hb, by simp, by simp, hm, by decide⟩, Frame1.setCell _ _ _⟩
  | some i =>
    have hi : Hid (nlI xs = i) := by show nlI xs = _; unfold nlI; rw [hn]
    have hlt := nlAt_lt xs i hn
    obtain ⟨g, off, cap, rfl, hcap, hcm, hgb⟩ := h.at_pos (by omega)
    have c0 := cellOf h.blk 0 (v := .slice (some ⟨g, off, none⟩) xs.length cap) rfl
    have c2 := cellOf h.blk 2 (v := .bool skip) rfl
    have l1 : (i : Int) + 1 ≤ (xs.length : Int) := by omega
    have hi1 : IntKind.i64.wrap ((i : Int) + 1) = i + 1 := IntWalk.i64_in _ (by omega)
    have hO := h.own.drop (i + 1) (by omega)
    have hgl : g ≠ b := hgb
    obtain ⟨v', hv'⟩ : ∃ v', v' = Value.slice (some ⟨g, if cap = i + 1 then off else off + (i + 1), none⟩) (xs.length - (i + 1)) (cap - (i + 1)) := ⟨_, rfl⟩
    rw [← hv'] at hO
    have hq : QIs ((w.setCell ⟨b, 0, none⟩ v').setCell ⟨b, 2, none⟩ (.bool false)) 48 base b v' (xs.drop (i + 1)) most false := by
      refine ⟨by simpa using heap_setCell_same (heap_setCell_same h.blk 0 v') 2 (.bool false), ?_, h.hb, fun x hx => h.rng x (List.mem_of_mem_drop hx), by simp; omega, hm, by decide⟩
      simp only [List.length_drop, List.map_drop]
      refine hO.of_heap fun k hk => ?_
      rw [hv'] at hk
      simp [Value.ownBlock] at hk
      subst hk
      rw [Below.heap_setCell _ _ _ _ hgl, Below.heap_setCell _ _ _ _ hgl]
    have hF : Frame1 b w ((w.setCell ⟨b, 0, none⟩ v').setCell ⟨b, 2, none⟩ (.bool false)) := (Frame1.setCell _ _ _).trans (Frame1.setCell _ _ _)
    have HQ := hidp (And.intro hq hF)
    have HV := hidp hv'
    clear hn h hq hF hv' hO
    by_cases hc : cap = i + 1
    · subst hc
      go_enter Try.func23, Try.ntmps23
      go_wp2_with fail
      refine (index_any base _ xs w H.out.own H.out.rng).mono ?_
      rintro e w1 ⟨rfl, rfl⟩
      rw [hi.out]
      go_wp2
      go_returns
      have e := HV.out
      rw [if_pos trivial, Nat.sub_self, show xs.length - (i + 1) = 0 by omega] at e
      subst e
      exact ⟨rfl, ⟨_, HQ.out.1⟩, HQ.out.2⟩
    · go_enter Try.func23, Try.ntmps23
      go_wp2_with fail
      refine (index_any base _ xs w H.out.own H.out.rng).mono ?_
      rintro e w1 ⟨rfl, rfl⟩
      rw [hi.out]
      go_wp2
      go_returns
      have e := HV.out
      rw [if_neg hc] at e
      subst e
      exact ⟨rfl, ⟨_, HQ.out.1⟩, HQ.out.2⟩

theorem made_cells {w : World} {base g n : Nat} {e : TypeId} {xs : List Value} (h : w.ownsRow base e 1 (.slice (some ⟨g, 0, none⟩) n n) n xs) :
    base ≤ g ∧ ∃ cur : List Value, w.heap[g]? = some (.cells cur.toArray e (0, 0)) ∧ n ≤ cur.length ∧ n ≤ maxLen := by
  rcases h.2 with ⟨hv, _⟩ | ⟨g', cap, cur, hv, hg, hh, hn, hm, hs, ht⟩
  · cases hv
  · cases hv
    exact ⟨hg, cur.toList, by simpa using hh, by simp; omega, hm⟩
theorem OwnMid.of_cells {w : World} {base g n : Nat} {e : TypeId} {L xs : List Value} (hh : w.heap[g]? = some (.cells L.toArray e (0, 0))) (hg : base ≤ g) (hm : n ≤ maxLen) (hl : n ≤ L.length) (ht : L.take n = xs) :
    OwnMid w base e (.slice (some ⟨g, 0, none⟩) n n) n xs := by
  subst ht
  refine ⟨by simp; omega, .inr ⟨g, 0, n, L.toArray, rfl, hg, hh, Nat.le_refl _, hm, by simpa using hl, fun j u hu => ?_⟩⟩
  rw [List.getElem?_take] at hu
  split at hu
  · simpa using hu
  · cases hu
theorem OwnMid.source {w : World} {base n : Nat} {e : TypeId} {v : Value} {xs : List Value} (h : OwnMid w base e v n xs) (a : Option Addr) (c : Nat) (hv : v = .slice a n c) (k : Nat) :
    0 < (xs.take k).length → ∃ ad, a = some ad ∧ ∀ j u, (xs.take k)[j]? = some u → w.cell? (ad.add j) = some u := by
  intro hp
  subst hv
  obtain ⟨h1, ⟨hv, h0⟩ | ⟨g', off', cap', cur, hv, hg, hh, hn, hm, hs, hc⟩⟩ := h
  · subst h0; obtain rfl : xs = [] := List.eq_nil_of_length_eq_zero h1; simp at hp
  · cases hv
    refine ⟨_, rfl, fun j u hu => ?_⟩
    rw [List.getElem?_take] at hu
    split at hu
    · have e : ((⟨g', off', none⟩ : Addr).add j) = ⟨g', off' + j, none⟩ := by unfold Addr.add; split <;> simp_all
      rw [e]; exact cellOf hh _ (hc j u hu)
    · cases hu
theorem one_u8 (xs : List Int) : ∀ u ∈ xs.map (Value.int .u8), u.oneCell' = true := by
  intro u hu; obtain ⟨x, _, rfl⟩ := List.mem_map.1 hu; rfl

set_option maxHeartbeats 2000000 in
theorem bytes_any (base b : Nat) (v : Value) (xs : List Int) (most : Nat) (skip : Bool) (w : World) (h : QIs w 48 base b v xs most skip) :
    Calls Try.prog 13 #[.pointer (some ⟨b, 0, none⟩)] w fun e w' => ∃ v', e = .returned v' ∧ OwnMid w' w.heap.size 5 v' xs.length (xs.map (Value.int .u8)) ∧ Below w.heap.size w w' := by
  have H := hidp h
  have hl := h.len
  have hm := h.max
  obtain ⟨a, c, rfl⟩ := h.own.slice
  obtain ⟨i0, hi0, hz0, hz1, hz2⟩ := info_parts Try.info5
  have c0 := cellOf h.blk 0 (v := .slice a xs.length c) rfl
  obtain ⟨X, hX⟩ : ∃ X, X = xs.map (Value.int .u8) := ⟨_, rfl⟩
  have hXl : X.length = xs.length := by rw [hX]; simp
  have hsrc := h.own.source a c rfl xs.length
  rw [← hX, List.take_of_length_le (by omega)] at hsrc
  have hone := one_u8 xs
  rw [← hX] at hone ⊢
  clear h hX
  go_enter Try.func13, Try.ntmps13
  go_wp2_with (first
    | (go_at_call 11; refine (len_any base b _ xs most skip w H.out).mono ?_; rintro e w1 ⟨rfl, rfl⟩)
    | (refine wpList_make_full _ rfl (.tmp 5) (.tmp 5) 27 rfl w.heap.size 5 i0 (.int .u8 0) 1 Try.underlying27 hi0 hz0 hz1 .i64 .i64 xs.length xs.length xs.length rfl rfl rfl rfl (by rw [hz2]; omega) (by simp only [maxLen]; omega) (Nat.le_refl _) ?_
       intro w1 hown1 hg1
       have hB1 : Below w.heap.size w w1 := (Below.refl _ _).grown hg1 (Nat.le_refl _) (by intro g hg; cases hg)
       obtain ⟨hgb, cur, hcur, hcl, hcm⟩ := made_cells hown1
       have c1 := below_cell hB1 (Nat.le_refl _) _ _ c0
       have C1 := hidp hcur
       clear hown1 hcur hg1 c0)
    | (with_reducible refine wpList_copy_splice rfl (.tmp 9) (.tmp 13) 27 27 rfl 5 Try.underlying27 (by kernel_rfl) _ _ _ _ _ _ rfl rfl w.heap.size 0 cur 5 C1.out X (by rw [hXl]; exact (Nat.min_self _).symm) (fun hp => ⟨rfl, by obtain ⟨ad, h1, h2⟩ := hsrc hp; exact ⟨ad, h1, fun j u hu => below_cell hB1 (Nat.le_refl _) _ _ (h2 j u hu)⟩⟩) (by omega) hone w.heap.size w hB1 (Nat.le_refl _) ?_
       intro w2 hG2 hB2))
  go_ret
  refine ⟨_, rfl, OwnMid.of_cells hG2.out (Nat.le_refl _) hcm (by rw [length_splice _ _ _ (by omega)]; exact hcl) ?_, hB2⟩
  rw [← hXl]
  simp [splice]

theorem clear_any (base b : Nat) (v : Value) (xs : List Int) (most : Nat) (skip : Bool) (w : World) (h : QIs w 48 base b v xs most skip) :
    Calls Try.prog 20 #[.pointer (some ⟨b, 0, none⟩)] w fun e w' => e = .returned (.int .i64 xs.length) ∧ QIs w' 48 base b (.slice none 0 0) [] most false ∧ Frame1 b w w' := by
  have H := hidp h
  have c0 := cellOf h.blk 0 (v := v) rfl
  have c2 := cellOf h.blk 2 (v := .bool skip) rfl
  have fr := frozenOf h.blk 0
  have fr2 := frozenOf h.blk 2
  have hq : QIs ((w.setCell ⟨b, 0, none⟩ (.slice none 0 0)).setCell ⟨b, 2, none⟩ (.bool false)) 48 base b (.slice none 0 0) [] most false :=
    ⟨by simpa using heap_setCell_same (heap_setCell_same h.blk 0 (.slice none 0 0)) 2 (.bool false), OwnMid.nil _ _ _, h.hb, by simp, by simp, h.max, by decide⟩
  have HQ := hidp hq
  clear h hq
  go_enter Try.func20, Try.ntmps20
  go_wp2_with (first | (go_at_call 11; refine (len_any base b _ xs most skip w H.out).mono ?_; rintro e w1 ⟨rfl, rfl⟩))
  go_ret
  exact ⟨rfl, HQ.out, (Frame1.setCell _ _ _).trans (Frame1.setCell _ _ _)⟩
theorem clear_nil (w : World) : Calls Try.prog 20 #[.pointer none] w fun e w' => e = .returned (.int .i64 0) ∧ w = w' := by
  go_enter Try.func20, Try.ntmps20
  go_wp2_with (first | (go_at_call 11; refine (len_nil w).mono ?_; rintro e w1 ⟨rfl, rfl⟩))
  go_ret
  exact ⟨rfl, rfl⟩
def capQ (n : Int) : Nat := min n.toNat 65536
theorem new_any (n : Int) (w : World) : Calls Try.prog 8 #[.int .i64 n] w fun e w' => ∃ b, e = .returned (.pointer (some ⟨b, 0, none⟩)) ∧ QIs w' 48 w.heap.size b (.slice none 0 0) [] (capQ n) false ∧ Below w.heap.size w w' := by
  rcases (by omega : n < 0 ∨ 0 ≤ n ∧ n ≤ 65536 ∨ 65536 < n) with h | ⟨h, h2⟩ | h
  · go_enter Try.func8, Try.ntmps8
    go_wp2
    go_ret
    refine ⟨_, rfl, ⟨?_, OwnMid.nil _ _ _, Nat.le_refl _, by simp, by simp, by unfold capQ; omega, by decide⟩, by go_grown⟩
    rw [show ((capQ n : Nat) : Int) = 0 by unfold capQ; omega]; exact heap_alloc_new _ _
  · go_enter Try.func8, Try.ntmps8
    go_wp2
    go_ret
    refine ⟨_, rfl, ⟨?_, OwnMid.nil _ _ _, Nat.le_refl _, by simp, by simp, by unfold capQ; omega, by decide⟩, by go_grown⟩
    rw [show ((capQ n : Nat) : Int) = n by unfold capQ; omega]; exact heap_alloc_new _ _
  · go_enter Try.func8, Try.ntmps8
    go_wp2
    go_ret
    refine ⟨_, rfl, ⟨?_, OwnMid.nil _ _ _, Nat.le_refl _, by simp, by simp, by unfold capQ; omega, by decide⟩, by go_grown⟩
    rw [show ((capQ n : Nat) : Int) = 65536 by unfold capQ; omega]; exact heap_alloc_new _ _
theorem take_nil (n : Int) (w : World) : Calls Try.prog 12 #[.pointer none, .int .i64 n] w fun e w' => e = .returned (.slice none 0 0) ∧ w = w' := by
  rcases (by omega : n < 0 ∨ n = 0 ∨ 0 < n) with h | rfl | h
  all_goals
    go_enter Try.func12, Try.ntmps12
    go_wp2_with (first | (go_at_call 11; refine (len_nil w).mono ?_; rintro e w1 ⟨rfl, rfl⟩))
    go_ret
    exact ⟨rfl, rfl⟩
theorem take_zero (base b : Nat) (v : Value) (xs : List Int) (most : Nat) (skip : Bool) (n : Int) (w : World) (h : QIs w 48 base b v xs most skip) (h0 : takeN xs n = 0) :
    Calls Try.prog 12 #[.pointer (some ⟨b, 0, none⟩), .int .i64 n] w fun e w' => e = .returned (.slice none 0 0) ∧ w = w' := by
  have hl := h.len
  have hm := h.max
  have H := hidp h
  clear h
  unfold takeN at h0
  rcases (by omega : n < 0 ∨ n = 0 ∨ 0 < n ∧ (xs.length : Int) = 0) with h | rfl | ⟨h, h2⟩
  all_goals
    clear h0
    go_enter Try.func12, Try.ntmps12
    go_wp2_with (first | (go_at_call 11; refine (len_any base b _ xs most skip w H.out).mono ?_; rintro e w1 ⟨rfl, rfl⟩))
    go_ret
    exact ⟨rfl, rfl⟩

theorem OwnMid.heap1 {w : World} {base : Nat} {e : TypeId} {n : Nat} {v : Value} {xs : List Value} (h : OwnMid w base e v n xs) {w' : World} (hB : ∀ g, v.ownBlock = some g → g < w.heap.size → w'.heap[g]? = w.heap[g]?) : OwnMid w' base e v n xs :=
  h.of_heap fun g hg => by obtain ⟨_, _, hh⟩ := h.block g hg; exact hB g hg (ltOf hh)
set_option maxHeartbeats 4000000 in
theorem take_pos' (base b : Nat) (v : Value) (xs : List Int) (most : Nat) (skip : Bool) (n : Int) (m : Nat) (w : World) (h : QIs w 48 base b v xs most skip) (h0 : takeN xs n = m) (hp : 0 < m) :
    Calls Try.prog 12 #[.pointer (some ⟨b, 0, none⟩), .int .i64 n] w fun e w' => ∃ v', e = .returned v' ∧ OwnMid w' w.heap.size 5 v' m ((xs.take m).map (Value.int .u8)) ∧ (∃ v'', QIs w' 48 base b v'' (xs.drop m) most skip ∧ FromTo w v v'') ∧ Frame1 b w w' := by
  have hl := h.len
  have hm := h.max
  have H := hidp h
  unfold takeN at h0
  obtain ⟨g, off, cap, rfl, hcap, hcm, hgb⟩ := h.at_pos (by omega)
  obtain ⟨i0, hi0, hz0, hz1, hz2⟩ := info_parts Try.info5
  have c0 := cellOf h.blk 0 (v := .slice (some ⟨g, off, none⟩) xs.length cap) rfl
  have fr := frozenOf h.blk 0
  have hml : m ≤ xs.length := by omega
  obtain ⟨X, hX⟩ : ∃ X, X = (xs.take m).map (Value.int .u8) := ⟨_, rfl⟩
  have hXl : X.length = m := by rw [hX]; simp; omega
  have hsrc : ∀ j u, X[j]? = some u → w.cell? ((⟨g, off, none⟩ : Addr).add j) = some u := by
    intro j u hu
    have hj := (List.getElem?_eq_some_iff.1 hu).1
    obtain ⟨ad, had, hs⟩ := h.own.source (some ⟨g, off, none⟩) cap rfl m (by simp; omega)
    cases had
    exact hs j u (by rw [← hu, hX, List.map_take])
  have hone : ∀ u ∈ X, u.oneCell' = true := by rw [hX]; exact one_u8 _
  have hO := h.own.drop m hml
  obtain ⟨v'', hv''⟩ : ∃ v'', v'' = Value.slice (some ⟨g, if cap = m then off else off + m, none⟩) (xs.length - m) (cap - m) := ⟨_, rfl⟩
  rw [← hv''] at hO
  have hobk : v''.ownBlock = some g := by rw [hv'']; rfl
  have hblt : b < w.heap.size := ltOf h.blk
  have hglt : g < w.heap.size := by obtain ⟨_, _, hh⟩ := h.own.block g rfl; exact ltOf hh
  have HO := hidp (And.intro hO hobk)
  have HV := hidp hv''
  rw [← hX]
  have hmn : (n = (m : Int) ∧ (m : Int) ≤ (xs.length : Int)) ∨ (m = xs.length ∧ (m : Int) < n) := by omega
  clear h hO hv'' hobk hX h0
  have fin : ∀ (w2 : World) (L : List Value), Hid (w2.heap[w.heap.size]? = some (.cells L.toArray 5 (0, 0))) → m ≤ L.length → L.take m = X → Below w.heap.size w w2 →
      ∃ v', Value.slice (some ⟨w.heap.size, 0, none⟩) m m = v' ∧ OwnMid (w2.setCell ⟨b, 0, none⟩ v'') w.heap.size 5 v' m X ∧ (∃ u, QIs (w2.setCell ⟨b, 0, none⟩ v'') 48 base b u (xs.drop m) most skip ∧ FromTo w (.slice (some ⟨g, off, none⟩) xs.length cap) u) ∧ Frame1 b w (w2.setCell ⟨b, 0, none⟩ v'') := by
    intro w2 L hG hL hT hB
    refine ⟨_, rfl, OwnMid.of_cells (L := L) ?_ (Nat.le_refl _) (by unfold maxLen; omega) hL hT, ⟨v'', ⟨?_, ?_, H.out.hb, fun x hx => H.out.rng x (List.mem_of_mem_drop hx), by simp; omega, hm, by decide⟩, fun k hk => .inl (by rw [HO.out.2] at hk; exact hk)⟩, (Frame1.of_below hB).trans (Frame1.setCell _ _ _)⟩
    · rw [Below.heap_setCell _ _ _ _ (by simp; omega)]; exact hG.out
    · simpa using heap_setCell_same (heap_below hB H.out.blk hblt) 0 v''
    · simp only [List.length_drop, List.map_drop]
      refine HO.out.1.of_heap fun k hk => ?_
      rw [HO.out.2] at hk
      cases hk
      rw [Below.heap_setCell _ _ _ _ hgb, hB.block g hglt]
  have HC : Hid (∀ w2 : World, Below w.heap.size w w2 → w2.cell? ⟨b, 0, none⟩ = some (.slice (some ⟨g, off, none⟩) xs.length cap) ∧ w2.frozen? ⟨b, 0, none⟩ = false) :=
    fun w2 hB2 => ⟨cellOf (heap_below hB2 H.out.blk hblt) 0 rfl, frozenOf (heap_below hB2 H.out.blk hblt) 0⟩
  have hle : (m : Int) ≤ (xs.length : Int) := by omega
  have hmn2 : n = m ∨ (Hid (m = xs.length) ∧ (m : Int) < n) := hmn.imp And.left id
  clear hmn
  by_cases hc : m = cap
  all_goals try subst hc
  all_goals rcases hmn2 with rfl | ⟨hmE, hlt⟩
  all_goals
    go_enter Try.func12, Try.ntmps12
    go_wp2_with (first
      | (go_at_call 11; refine (len_any base b _ xs most skip w H.out).mono ?_; rintro e w1 ⟨rfl, rfl⟩; try rw [← hmE.out])
      | (refine wpList_make_full _ rfl (.tmp 13) (.tmp 13) 27 rfl w.heap.size 5 i0 (.int .u8 0) 1 Try.underlying27 hi0 hz0 hz1 .i64 .i64 m m m rfl rfl rfl rfl (by rw [hz2]; omega) (by simp only [maxLen]; omega) (Nat.le_refl _) ?_
         intro w1 hown1 hg1
         have hB1 : Below w.heap.size w w1 := (Below.refl _ _).grown hg1 (Nat.le_refl _) (by intro g hg; cases hg)
         obtain ⟨hgb', cur, hcur, hcl, hcm'⟩ := made_cells hown1
         have c1 := below_cell hB1 (Nat.le_refl _) _ _ c0
         have C1 := hidp hcur
         clear hown1 hcur hg1 c0 hgb')
      | (with_reducible refine wpList_copy_splice rfl (.tmp 15) (.tmp 19) 27 27 rfl 5 Try.underlying27 (by kernel_rfl) _ _ _ _ _ _ rfl rfl w.heap.size 0 cur 5 C1.out X (by rw [hXl]; exact (Nat.min_eq_right hml).symm) (fun hp => ⟨rfl, _, rfl, fun j u hu => below_cell hB1 (Nat.le_refl _) _ _ (hsrc j u hu)⟩) (by omega) hone w.heap.size w hB1 (Nat.le_refl _) ?_
         intro w2 hG2 hB2
         obtain ⟨c2, fr2⟩ := HC.out w2 hB2))
    go_ret
    obtain ⟨v', e1, e2⟩ := fin w2 (splice cur 0 X) hG2 (by rw [length_splice _ _ _ (by omega)]; exact hcl) (by rw [← hXl]; simp [splice]) hB2
    refine ⟨v', ?_, ?_⟩
    · rw [← e1]; rfl
    · have e := HV.out
      first
        | (rw [if_neg (fun q => hc q.symm)] at e; subst e; exact e2)
        | (rw [if_pos trivial, Nat.sub_self, show xs.length - m = 0 by omega] at e; subst e; exact e2)
        | (rw [if_pos rfl, Nat.sub_self, show xs.length - m = 0 by omega] at e; subst e; exact e2)
theorem take_pos (base b : Nat) (v : Value) (xs : List Int) (most : Nat) (skip : Bool) (n : Int) (m : Nat) (w : World) (h : QIs w 48 base b v xs most skip) (h0 : takeN xs n = m) (hp : 0 < m) :
    Calls Try.prog 12 #[.pointer (some ⟨b, 0, none⟩), .int .i64 n] w fun e w' => ∃ v', e = .returned v' ∧ OwnMid w' w.heap.size 5 v' m ((xs.take m).map (Value.int .u8)) ∧ (∃ v'', QIs w' 48 base b v'' (xs.drop m) most skip) ∧ Frame1 b w w' :=
  (take_pos' base b v xs most skip n m w h h0 hp).mono fun _ _ ⟨v', h1, h2, ⟨v'', h3, _⟩, h4⟩ => ⟨v', h1, h2, ⟨v'', h3⟩, h4⟩
end Go.Proofs.Ytfcfckcpmjccoaa
