/- attrs.Same: segments and raws are compared. -/
import Derived.Test.YtnenpfalhbbadaaQD
import Derived.Test.YtnenpfalhbbadaaKF
import Derived.Deep.DeepMust
namespace Go.Proofs.Ytnenpfalhbbadaa
open Go.RowKit

set_option maxHeartbeats 2000000 in
theorem sg71_any (s t : Sg) (w : World) (hs : RowV w s.a s.n 1 (s.nums.map (Value.int .u32))) (ht : RowV w t.a t.n 1 (t.nums.map (Value.int .u32))) (hsn : s.n ≤ 9223372036854775807) (htn : t.n ≤ 9223372036854775807) :
    Calls Try.prog 71 #[.agg s.cells.toArray, .agg t.cells.toArray] w fun e w' => e = .returned (.bool (decide (s.key = t.key))) ∧ Below w.heap.size w w' := by
  have hb := ((Below.refl w.heap.size w).alloc (Nat.le_refl _) (.cells #[.int .i64 s.kind, .slice s.a s.n s.c] 97)).alloc (by simp) (.cells #[.int .i64 t.kind, .slice t.a t.n t.c] 97)
  have k0 : ((w.alloc (.cells #[.int .i64 s.kind, .slice s.a s.n s.c] 97)).alloc (.cells #[.int .i64 t.kind, .slice t.a t.n t.c] 97)).heap[w.heap.size]? = some (.cells #[.int .i64 s.kind, .slice s.a s.n s.c] 97 (0, 0)) := heap_alloc_at (heap_alloc_new w _) _
  have k1 : ((w.alloc (.cells #[.int .i64 s.kind, .slice s.a s.n s.c] 97)).alloc (.cells #[.int .i64 t.kind, .slice t.a t.n t.c] 97)).heap[w.heap.size + 1]? = some (.cells #[.int .i64 t.kind, .slice t.a t.n t.c] 97 (0, 0)) := heap_alloc_top _ _ _ (by simp)
  have HS := hidp (hs.below hb)
  have HT := hidp (ht.below hb)
  have hsv : (Value.agg s.cells.toArray) = .agg #[.int .i64 s.kind, .slice s.a s.n s.c] := rfl
  have htv : (Value.agg t.cells.toArray) = .agg #[.int .i64 t.kind, .slice t.a t.n t.c] := rfl
  rw [hsv, htv]
  have HB := hidp hb
  clear hs ht hsv htv hb
  go_enter Try.func71, Try.ntmps71
  go_upto_region 1 with (fail)
  change Code.wp Try.prog _ _ _ ((w.alloc (.cells #[.int .i64 s.kind, .slice s.a s.n s.c] 97)).alloc (.cells #[.int .i64 t.kind, .slice t.a t.n t.c] 97))
  generalize (w.alloc (.cells #[.int .i64 s.kind, .slice s.a s.n s.c] 97)).alloc (.cells #[.int .i64 t.kind, .slice t.a t.n t.c] 97) = w0 at *
  have c0 := cellOf k0 0 (v := .int .i64 s.kind) rfl
  have c1 := cellOf k0 1 (v := .slice s.a s.n s.c) rfl
  have d0 := cellOf k1 0 (v := .int .i64 t.kind) rfl
  have d1 := cellOf k1 1 (v := .slice t.a t.n t.c) rfl
  clear k0 k1
  by_cases hk : s.kind = t.kind
  · have HR := hidp (show decide (s.key = t.key) = decide (s.nums = t.nums) by simp [Sg.key, hk])
    have l1 : (s.kind == t.kind) = true := by simp [hk]
    clear hk
    go_wp2_with (go_at_call 60; go_must (
      refine (eq60_any s.a t.a s.n t.n s.c t.c s.nums t.nums _ HS.out HT.out hsn htn).mono ?_
      rintro e w1 ⟨rfl, B1⟩
      have HB1 := hidp (HB.out.trans (B1.mono HB.out.size))
      clear B1))
    go_ret
    exact ⟨by rw [HR.out]; rfl, HB1.out⟩
  · have HR := hidp (show decide (s.key = t.key) = false by simp [Sg.key, hk])
    have l1 : (s.kind == t.kind) = false := by simp [hk]
    clear hk
    go_wp2
    go_ret
    exact ⟨by rw [HR.out]; rfl, HB.out⟩

set_option maxHeartbeats 2000000 in
theorem rw61_any (s t : Rw) (w : World) (hs : RowV w s.a s.n 1 (s.bytes.map (Value.int .u8))) (ht : RowV w t.a t.n 1 (t.bytes.map (Value.int .u8))) (hsn : s.n ≤ 9223372036854775807) (htn : t.n ≤ 9223372036854775807) :
    Calls Try.prog 61 #[.agg s.cells.toArray, .agg t.cells.toArray] w fun e w' => e = .returned (.bool (decide (s.key = t.key))) ∧ Below w.heap.size w w' := by
  have hb := ((Below.refl w.heap.size w).alloc (Nat.le_refl _) (.cells #[.int .i64 s.flags, .int .i64 s.type, .slice s.a s.n s.c] 81)).alloc (by simp) (.cells #[.int .i64 t.flags, .int .i64 t.type, .slice t.a t.n t.c] 81)
  have k0 : ((w.alloc (.cells #[.int .i64 s.flags, .int .i64 s.type, .slice s.a s.n s.c] 81)).alloc (.cells #[.int .i64 t.flags, .int .i64 t.type, .slice t.a t.n t.c] 81)).heap[w.heap.size]? = some (.cells #[.int .i64 s.flags, .int .i64 s.type, .slice s.a s.n s.c] 81 (0, 0)) := heap_alloc_at (heap_alloc_new w _) _
  have k1 : ((w.alloc (.cells #[.int .i64 s.flags, .int .i64 s.type, .slice s.a s.n s.c] 81)).alloc (.cells #[.int .i64 t.flags, .int .i64 t.type, .slice t.a t.n t.c] 81)).heap[w.heap.size + 1]? = some (.cells #[.int .i64 t.flags, .int .i64 t.type, .slice t.a t.n t.c] 81 (0, 0)) := heap_alloc_top _ _ _ (by simp)
  have HS := hidp (hs.below hb)
  have HT := hidp (ht.below hb)
  have hsv : (Value.agg s.cells.toArray) = .agg #[.int .i64 s.flags, .int .i64 s.type, .slice s.a s.n s.c] := rfl
  have htv : (Value.agg t.cells.toArray) = .agg #[.int .i64 t.flags, .int .i64 t.type, .slice t.a t.n t.c] := rfl
  rw [hsv, htv]
  have HB := hidp hb
  clear hs ht hsv htv hb
  go_enter Try.func61, Try.ntmps61
  go_upto_region 1 with (fail)
  change Code.wp Try.prog _ _ _ ((w.alloc (.cells #[.int .i64 s.flags, .int .i64 s.type, .slice s.a s.n s.c] 81)).alloc (.cells #[.int .i64 t.flags, .int .i64 t.type, .slice t.a t.n t.c] 81))
  generalize (w.alloc (.cells #[.int .i64 s.flags, .int .i64 s.type, .slice s.a s.n s.c] 81)).alloc (.cells #[.int .i64 t.flags, .int .i64 t.type, .slice t.a t.n t.c] 81) = w0 at *
  have c0 := cellOf k0 0 (v := .int .i64 s.flags) rfl
  have c1 := cellOf k0 1 (v := .int .i64 s.type) rfl
  have c2 := cellOf k0 2 (v := .slice s.a s.n s.c) rfl
  have d0 := cellOf k1 0 (v := .int .i64 t.flags) rfl
  have d1 := cellOf k1 1 (v := .int .i64 t.type) rfl
  have d2 := cellOf k1 2 (v := .slice t.a t.n t.c) rfl
  clear k0 k1
  by_cases hf : s.flags = t.flags
  · by_cases hk : s.type = t.type
    · have HR := hidp (show decide (s.key = t.key) = decide (s.bytes = t.bytes) by simp [Rw.key, hk, hf])
      have l1 : (s.flags == t.flags) = true := by simp [hf]
      have l2 : (s.type == t.type) = true := by simp [hk]
      clear hk hf
      go_wp2_with (go_at_call 62; go_must (
        refine (eq62_any s.a t.a s.n t.n s.c t.c s.bytes t.bytes _ HS.out HT.out hsn htn).mono ?_
        rintro e w1 ⟨rfl, B1⟩
        have HB1 := hidp (HB.out.trans (B1.mono HB.out.size))
        clear B1))
      go_ret
      exact ⟨by rw [HR.out]; rfl, HB1.out⟩
    · have HR := hidp (show decide (s.key = t.key) = false by simp [Rw.key, hk])
      have l1 : (s.flags == t.flags) = true := by simp [hf]
      have l2 : (s.type == t.type) = false := by simp [hk]
      clear hk hf
      go_wp2
      go_ret
      exact ⟨by rw [HR.out]; rfl, HB.out⟩
  · have HR := hidp (show decide (s.key = t.key) = false by simp [Rw.key, hf])
    have l1 : (s.flags == t.flags) = false := by simp [hf]
    clear hf
    go_wp2
    go_ret
    exact ⟨by rw [HR.out]; rfl, HB.out⟩

set_option maxHeartbeats 2000000 in
theorem eqf70_any (a b : Option Addr) (n m c d : Nat) (S T : List Sg) (w : World) (hx : RowV w a n 2 (S.flatMap Sg.cells)) (hxl : S.length = n) (hy : RowV w b m 2 (T.flatMap Sg.cells)) (hyl : T.length = m) (hn : n ≤ 9223372036854775807)
    (hE : ∀ s ∈ S, ∀ t ∈ T, ∀ W, Below w.heap.size w W → Calls Try.prog 71 #[.agg s.cells.toArray, .agg t.cells.toArray] W fun e W' => e = .returned (.bool (decide (s.key = t.key))) ∧ Below W.heap.size W W') :
    Calls Try.prog 70 #[.slice a n c, .slice b m d, .func (.func 71) #[] #[]] w fun e w' => e = .returned (.bool (decide (S.map Sg.key = T.map Sg.key))) ∧ Below w.heap.size w w' := by
  have eg : ∀ args w, (callFunc 71 args).run Try.prog w = .ok (.enter 71 args) w := fun args w => enters_fn Try.func71 (by kernel_rfl) rfl args w
  have HX := hidp hx
  have HY := hidp hy
  have HLX := hidp hxl
  have HLY := hidp hyl
  have HE := hidp hE
  clear hx hy hxl hyl hE
  by_cases hnm : n = m
  · subst hnm
    go_enter Try.func70, Try.ntmps70
    go_wp2
    go_loopw [17] (fun i wr => ∃ j : Nat, j ≤ n ∧ i = .int .i64 j ∧ Hid ((S.take j).map Sg.key = (T.take j).map Sg.key) ∧ Hid (Below w.heap.size w wr)) (fun i _ => n - (intOf i).toNat)
    case atStart => exact ⟨0, by omega, rfl, rfl, Below.refl _ _⟩
    case round =>
      obtain ⟨j, hj, rfl, HP, HB⟩ := hrel
      by_cases hlt : j < n
      · obtain ⟨g, o, rfl, hc⟩ := (HX.out.below HB.out).2 (by omega)
        obtain ⟨g', o', rfl, hc'⟩ := (HY.out.below HB.out).2 (by omega)
        have jx : j < S.length := by rw [HLX.out]; exact hlt
        have jy : j < T.length := by rw [HLY.out]; exact hlt
        have c0 := hc (j * 2 + 0) _ (flat_get Sg.cells 2 (fun _ => rfl) S j 0 jx (by decide))
        have d0 := hc' (j * 2 + 0) _ (flat_get Sg.cells 2 (fun _ => rfl) T j 0 jy (by decide))
        have c1 := hc (j * 2 + 1) _ (flat_get Sg.cells 2 (fun _ => rfl) S j 1 jx (by decide))
        have d1 := hc' (j * 2 + 1) _ (flat_get Sg.cells 2 (fun _ => rfl) T j 1 jy (by decide))
        rw [Nat.add_zero] at c0
        rw [Nat.add_zero] at d0
        rw [← Nat.add_assoc] at c1 d1
        have HN := hidp (show S[j].key = T[j].key → (S.take (j + 1)).map Sg.key = (T.take (j + 1)).map Sg.key from fun h => by rw [List.take_add_one, List.take_add_one, List.map_append, List.map_append, HP.out, List.getElem?_eq_getElem jx, List.getElem?_eq_getElem jy]; simp [h])
        have HM := hidp (show S[j].key ≠ T[j].key → decide (S.map Sg.key = T.map Sg.key) = false from fun h => by
          simp only [decide_eq_false_iff_not]
          intro e
          apply h
          have e2 : (S.map Sg.key)[j]? = (T.map Sg.key)[j]? := by rw [e]
          rw [List.getElem?_map, List.getElem?_map, List.getElem?_eq_getElem jx, List.getElem?_eq_getElem jy] at e2
          simpa using e2)
        have HC := hidp (HE.out _ (List.getElem_mem jx) _ (List.getElem_mem jy))
        generalize S[j] = s at *
        generalize T[j] = t at *
        have hsv : (Value.agg s.cells.toArray) = .agg #[.int .i64 s.kind, .slice s.a s.n s.c] := rfl
        have htv : (Value.agg t.cells.toArray) = .agg #[.int .i64 t.kind, .slice t.a t.n t.c] := rfl
        rw [hsv, htv] at HC
        have l1 : (j : Int) < (n : Int) := by omega
        have hb2 := ((Below.refl wr.heap.size wr).alloc (Nat.le_refl _) (.cells #[.int .i64 s.kind, .slice s.a s.n s.c] 97)).alloc (by simp) (.cells #[.int .i64 t.kind, .slice t.a t.n t.c] 97)
        have k0 : ((wr.alloc (.cells #[.int .i64 s.kind, .slice s.a s.n s.c] 97)).alloc (.cells #[.int .i64 t.kind, .slice t.a t.n t.c] 97)).heap[wr.heap.size]? = some (.cells #[.int .i64 s.kind, .slice s.a s.n s.c] 97 (0, 0)) := heap_alloc_at (heap_alloc_new wr _) _
        have k1 : ((wr.alloc (.cells #[.int .i64 s.kind, .slice s.a s.n s.c] 97)).alloc (.cells #[.int .i64 t.kind, .slice t.a t.n t.c] 97)).heap[wr.heap.size + 1]? = some (.cells #[.int .i64 t.kind, .slice t.a t.n t.c] 97 (0, 0)) := heap_alloc_top _ _ _ (by simp)
        have HB2 := hidp (HB.out.trans (hb2.mono HB.out.size))
        have K0 := hidp k0
        have K1 := hidp k1
        have d0' := below_cell ((Below.refl wr.heap.size wr).alloc (Nat.le_refl _) (.cells #[.int .i64 s.kind, .slice s.a s.n s.c] 97)) (Nat.le_refl _) _ _ d0
        have d1' := below_cell ((Below.refl wr.heap.size wr).alloc (Nat.le_refl _) (.cells #[.int .i64 s.kind, .slice s.a s.n s.c] 97)) (Nat.le_refl _) _ _ d1
        clear hc hc' jx jy hsv htv hb2 k0 k1
        go_upto_region 7 with (fail)
        change Code.wp Try.prog _ _ _ ((wr.alloc (.cells #[.int .i64 s.kind, .slice s.a s.n s.c] 97)).alloc (.cells #[.int .i64 t.kind, .slice t.a t.n t.c] 97))
        generalize (wr.alloc (.cells #[.int .i64 s.kind, .slice s.a s.n s.c] 97)).alloc (.cells #[.int .i64 t.kind, .slice t.a t.n t.c] 97) = w2 at *
        have e0 := cellOf K0.out 0 (v := .int .i64 s.kind) rfl
        have f0 := cellOf K1.out 0 (v := .int .i64 t.kind) rfl
        have e1 := cellOf K0.out 1 (v := .slice s.a s.n s.c) rfl
        have f1 := cellOf K1.out 1 (v := .slice t.a t.n t.c) rfl
        go_wp2_with fail
        refine (HC.out w2 HB2.out).mono ?_
        rintro e w3 ⟨rfl, B3⟩
        have HB3 := hidp (HB2.out.trans (B3.mono HB2.out.size))
        clear B3 c0 d0 e0 f0 c1 d1 e1 f1 d0' d1'
        by_cases hk : s.key = t.key
        · have HQ := hidp (HN.out hk)
          rw [decide_eq_true hk]
          clear hk
          go_wp2
          go_roundw
          case rel => exact ⟨j + 1, by omega, by go_num, HQ, HB3⟩
          case measure => simp [intOf]; omega
        · have HQ := hidp (HM.out hk)
          rw [decide_eq_false hk]
          clear hk
          go_wp2
          go_ret
          exact ⟨by rw [HQ.out]; rfl, HB3.out⟩
      · have l1 : ¬ (j : Int) < (n : Int) := by omega
        obtain rfl : j = n := by omega
        have HQ := hidp (show decide (S.map Sg.key = T.map Sg.key) = true by
          have := HP.out
          rw [List.take_of_length_le (by rw [HLX.out]; omega), List.take_of_length_le (by rw [HLY.out]; omega)] at this
          simpa using this)
        go_wp2
        go_ret
        exact ⟨by rw [HQ.out]; rfl, HB.out⟩
  · have HQ := hidp (show decide (S.map Sg.key = T.map Sg.key) = false by
      simp only [decide_eq_false_iff_not]
      intro e
      have := congrArg List.length e
      simp only [List.length_map] at this
      rw [HLX.out, HLY.out] at this
      exact hnm this)
    have hb : ((n : Int) == (m : Int)) = false := by simp; omega
    go_enter Try.func70, Try.ntmps70
    go_wp2
    go_ret
    exact ⟨by rw [HQ.out]; rfl, Below.refl _ _⟩

set_option maxHeartbeats 2000000 in
theorem eqf63_any (a b : Option Addr) (n m c d : Nat) (S T : List Rw) (w : World) (hx : RowV w a n 3 (S.flatMap Rw.cells)) (hxl : S.length = n) (hy : RowV w b m 3 (T.flatMap Rw.cells)) (hyl : T.length = m) (hn : n ≤ 9223372036854775807)
    (hE : ∀ s ∈ S, ∀ t ∈ T, ∀ W, Below w.heap.size w W → Calls Try.prog 61 #[.agg s.cells.toArray, .agg t.cells.toArray] W fun e W' => e = .returned (.bool (decide (s.key = t.key))) ∧ Below W.heap.size W W') :
    Calls Try.prog 63 #[.slice a n c, .slice b m d, .func (.func 61) #[] #[]] w fun e w' => e = .returned (.bool (decide (S.map Rw.key = T.map Rw.key))) ∧ Below w.heap.size w w' := by
  have eg : ∀ args w, (callFunc 61 args).run Try.prog w = .ok (.enter 61 args) w := fun args w => enters_fn Try.func61 (by kernel_rfl) rfl args w
  have HX := hidp hx
  have HY := hidp hy
  have HLX := hidp hxl
  have HLY := hidp hyl
  have HE := hidp hE
  clear hx hy hxl hyl hE
  by_cases hnm : n = m
  · subst hnm
    go_enter Try.func63, Try.ntmps63
    go_wp2
    go_loopw [17] (fun i wr => ∃ j : Nat, j ≤ n ∧ i = .int .i64 j ∧ Hid ((S.take j).map Rw.key = (T.take j).map Rw.key) ∧ Hid (Below w.heap.size w wr)) (fun i _ => n - (intOf i).toNat)
    case atStart => exact ⟨0, by omega, rfl, rfl, Below.refl _ _⟩
    case round =>
      obtain ⟨j, hj, rfl, HP, HB⟩ := hrel
      by_cases hlt : j < n
      · obtain ⟨g, o, rfl, hc⟩ := (HX.out.below HB.out).2 (by omega)
        obtain ⟨g', o', rfl, hc'⟩ := (HY.out.below HB.out).2 (by omega)
        have jx : j < S.length := by rw [HLX.out]; exact hlt
        have jy : j < T.length := by rw [HLY.out]; exact hlt
        have c0 := hc (j * 3 + 0) _ (flat_get Rw.cells 3 (fun _ => rfl) S j 0 jx (by decide))
        have d0 := hc' (j * 3 + 0) _ (flat_get Rw.cells 3 (fun _ => rfl) T j 0 jy (by decide))
        have c1 := hc (j * 3 + 1) _ (flat_get Rw.cells 3 (fun _ => rfl) S j 1 jx (by decide))
        have d1 := hc' (j * 3 + 1) _ (flat_get Rw.cells 3 (fun _ => rfl) T j 1 jy (by decide))
        have c2 := hc (j * 3 + 2) _ (flat_get Rw.cells 3 (fun _ => rfl) S j 2 jx (by decide))
        have d2 := hc' (j * 3 + 2) _ (flat_get Rw.cells 3 (fun _ => rfl) T j 2 jy (by decide))
        rw [Nat.add_zero] at c0
        rw [Nat.add_zero] at d0
        rw [← Nat.add_assoc] at c1 d1
        rw [← Nat.add_assoc] at c2 d2
        have HN := hidp (show S[j].key = T[j].key → (S.take (j + 1)).map Rw.key = (T.take (j + 1)).map Rw.key from fun h => by rw [List.take_add_one, List.take_add_one, List.map_append, List.map_append, HP.out, List.getElem?_eq_getElem jx, List.getElem?_eq_getElem jy]; simp [h])
        have HM := hidp (show S[j].key ≠ T[j].key → decide (S.map Rw.key = T.map Rw.key) = false from fun h => by
          simp only [decide_eq_false_iff_not]
          intro e
          apply h
          have e2 : (S.map Rw.key)[j]? = (T.map Rw.key)[j]? := by rw [e]
          rw [List.getElem?_map, List.getElem?_map, List.getElem?_eq_getElem jx, List.getElem?_eq_getElem jy] at e2
          simpa using e2)
        have HC := hidp (HE.out _ (List.getElem_mem jx) _ (List.getElem_mem jy))
        generalize S[j] = s at *
        generalize T[j] = t at *
        have hsv : (Value.agg s.cells.toArray) = .agg #[.int .i64 s.flags, .int .i64 s.type, .slice s.a s.n s.c] := rfl
        have htv : (Value.agg t.cells.toArray) = .agg #[.int .i64 t.flags, .int .i64 t.type, .slice t.a t.n t.c] := rfl
        rw [hsv, htv] at HC
        have l1 : (j : Int) < (n : Int) := by omega
        have hb2 := ((Below.refl wr.heap.size wr).alloc (Nat.le_refl _) (.cells #[.int .i64 s.flags, .int .i64 s.type, .slice s.a s.n s.c] 81)).alloc (by simp) (.cells #[.int .i64 t.flags, .int .i64 t.type, .slice t.a t.n t.c] 81)
        have k0 : ((wr.alloc (.cells #[.int .i64 s.flags, .int .i64 s.type, .slice s.a s.n s.c] 81)).alloc (.cells #[.int .i64 t.flags, .int .i64 t.type, .slice t.a t.n t.c] 81)).heap[wr.heap.size]? = some (.cells #[.int .i64 s.flags, .int .i64 s.type, .slice s.a s.n s.c] 81 (0, 0)) := heap_alloc_at (heap_alloc_new wr _) _
        have k1 : ((wr.alloc (.cells #[.int .i64 s.flags, .int .i64 s.type, .slice s.a s.n s.c] 81)).alloc (.cells #[.int .i64 t.flags, .int .i64 t.type, .slice t.a t.n t.c] 81)).heap[wr.heap.size + 1]? = some (.cells #[.int .i64 t.flags, .int .i64 t.type, .slice t.a t.n t.c] 81 (0, 0)) := heap_alloc_top _ _ _ (by simp)
        have HB2 := hidp (HB.out.trans (hb2.mono HB.out.size))
        have K0 := hidp k0
        have K1 := hidp k1
        have d0' := below_cell ((Below.refl wr.heap.size wr).alloc (Nat.le_refl _) (.cells #[.int .i64 s.flags, .int .i64 s.type, .slice s.a s.n s.c] 81)) (Nat.le_refl _) _ _ d0
        have d1' := below_cell ((Below.refl wr.heap.size wr).alloc (Nat.le_refl _) (.cells #[.int .i64 s.flags, .int .i64 s.type, .slice s.a s.n s.c] 81)) (Nat.le_refl _) _ _ d1
        have d2' := below_cell ((Below.refl wr.heap.size wr).alloc (Nat.le_refl _) (.cells #[.int .i64 s.flags, .int .i64 s.type, .slice s.a s.n s.c] 81)) (Nat.le_refl _) _ _ d2
        clear hc hc' jx jy hsv htv hb2 k0 k1
        go_upto_region 7 with (fail)
        change Code.wp Try.prog _ _ _ ((wr.alloc (.cells #[.int .i64 s.flags, .int .i64 s.type, .slice s.a s.n s.c] 81)).alloc (.cells #[.int .i64 t.flags, .int .i64 t.type, .slice t.a t.n t.c] 81))
        generalize (wr.alloc (.cells #[.int .i64 s.flags, .int .i64 s.type, .slice s.a s.n s.c] 81)).alloc (.cells #[.int .i64 t.flags, .int .i64 t.type, .slice t.a t.n t.c] 81) = w2 at *
        have e0 := cellOf K0.out 0 (v := .int .i64 s.flags) rfl
        have f0 := cellOf K1.out 0 (v := .int .i64 t.flags) rfl
        have e1 := cellOf K0.out 1 (v := .int .i64 s.type) rfl
        have f1 := cellOf K1.out 1 (v := .int .i64 t.type) rfl
        have e2 := cellOf K0.out 2 (v := .slice s.a s.n s.c) rfl
        have f2 := cellOf K1.out 2 (v := .slice t.a t.n t.c) rfl
        go_wp2_with fail
        refine (HC.out w2 HB2.out).mono ?_
        rintro e w3 ⟨rfl, B3⟩
        have HB3 := hidp (HB2.out.trans (B3.mono HB2.out.size))
        clear B3 c0 d0 e0 f0 c1 d1 e1 f1 c2 d2 e2 f2 d0' d1' d2'
        by_cases hk : s.key = t.key
        · have HQ := hidp (HN.out hk)
          rw [decide_eq_true hk]
          clear hk
          go_wp2
          go_roundw
          case rel => exact ⟨j + 1, by omega, by go_num, HQ, HB3⟩
          case measure => simp [intOf]; omega
        · have HQ := hidp (HM.out hk)
          rw [decide_eq_false hk]
          clear hk
          go_wp2
          go_ret
          exact ⟨by rw [HQ.out]; rfl, HB3.out⟩
      · have l1 : ¬ (j : Int) < (n : Int) := by omega
        obtain rfl : j = n := by omega
        have HQ := hidp (show decide (S.map Rw.key = T.map Rw.key) = true by
          have := HP.out
          rw [List.take_of_length_le (by rw [HLX.out]; omega), List.take_of_length_le (by rw [HLY.out]; omega)] at this
          simpa using this)
        go_wp2
        go_ret
        exact ⟨by rw [HQ.out]; rfl, HB.out⟩
  · have HQ := hidp (show decide (S.map Rw.key = T.map Rw.key) = false by
      simp only [decide_eq_false_iff_not]
      intro e
      have := congrArg List.length e
      simp only [List.length_map] at this
      rw [HLX.out, HLY.out] at this
      exact hnm this)
    have hb : ((n : Int) == (m : Int)) = false := by simp; omega
    go_enter Try.func63, Try.ntmps63
    go_wp2
    go_ret
    exact ⟨by rw [HQ.out]; rfl, Below.refl _ _⟩
end Go.Proofs.Ytnenpfalhbbadaa
