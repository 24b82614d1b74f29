/- The document's words on equal lists: numbers, bytes, segments. -/
import Derived.Test.YtnenpfalhbbadaaQD
import Derived.Test.YtnenpfalhbbadaaKF
import Derived.Deep.DeepMust
import Derived.Laws.BytesArg
import Derived.Laws.BytesString
namespace Go.Proofs.Ytnenpfalhbbadaa
open Go.RowKit

set_option maxHeartbeats 2000000 in
theorem nums37_any (a b : Option Addr) (n m c d : Nat) (xs ys : List Int) (w : World) (hx : RowV w a n 1 (xs.map (Value.int .u32))) (hy : RowV w b m 1 (ys.map (Value.int .u32))) (hn : n ≤ 9223372036854775807) :
    Calls Try.prog 37 #[.slice a n c, .slice b m d] w fun e w' => e = .returned (.bool (decide (xs = ys))) ∧ Below w.heap.size w w' := by
  have hlx : xs.length = n := by simpa using hx.1
  have hly : ys.length = m := by simpa using hy.1
  have HX := hidp hx
  have HY := hidp hy
  clear hx hy
  by_cases hnm : n = m
  · subst hnm
    have HLX := hidp hlx
    have HLY := hidp hly
    clear hlx hly
    go_enter Try.func37, Try.ntmps37
    go_wp2
    go_loopw [5] (fun i wr => ∃ j : Nat, j ≤ n ∧ i = .int .i64 j ∧ Hid (xs.take j = ys.take j) ∧ Hid (Below w.heap.size w wr)) (fun i _ => n - (intOf i).toNat)
    case atStart => exact ⟨0, by omega, rfl, rfl, Below.refl _ _⟩
    case round =>
      obtain ⟨j, hj, rfl, HP, HB⟩ := hrel
      by_cases hlt : j < n
      · obtain ⟨g, o, rfl, hc⟩ := (HX.out.below HB.out).2 (by omega)
        obtain ⟨g', o', rfl, hc'⟩ := (HY.out.below HB.out).2 (by omega)
        have jx : j < xs.length := by rw [HLX.out]; exact hlt
        have jy : j < ys.length := by rw [HLY.out]; exact hlt
        have cx := hc j (.int .u32 xs[j]) (by simp [List.getElem?_eq_getElem jx])
        have cy := hc' j (.int .u32 ys[j]) (by simp [List.getElem?_eq_getElem jy])
        have HN := hidp (show xs[j] = ys[j] → xs.take (j + 1) = ys.take (j + 1) from fun h => by rw [List.take_add_one, List.take_add_one, HP.out, List.getElem?_eq_getElem jx, List.getElem?_eq_getElem jy, h])
        have HM := hidp (show xs[j] ≠ ys[j] → decide (xs = ys) = false from fun h => by simp; intro e; subst e; exact h rfl)
        generalize xs[j] = x at *
        generalize ys[j] = y at *
        have l1 : (j : Int) < (n : Int) := by omega
        have HB2 := hidp (HB.out.trans ((Below.refl wr.heap.size wr).drew.mono HB.out.size))
        clear hc hc' jx jy
        by_cases hxy : x = y
        · have HQ := hidp (HN.out hxy)
          subst hxy
          go_wp2_with fail
          go_region
          go_wp2
          go_roundw
          case rel => exact ⟨j + 1, by omega, by go_num, HQ, HB2⟩
          case measure => simp [intOf]; omega
        · have HQ := hidp (HM.out hxy)
          have hb : (x == y) = false := by simp [hxy]
          go_wp2_with fail
          go_region
          go_wp2
          go_ret
          exact ⟨by rw [HQ.out]; rfl, HB2.out⟩
      · have l1 : ¬ (j : Int) < (n : Int) := by omega
        obtain rfl : j = n := by omega
        have HQ := hidp (show decide (xs = ys) = true by
          have := HP.out
          rw [List.take_of_length_le (by rw [HLX.out]; omega), List.take_of_length_le (by rw [HLY.out]; omega)] at this
          simpa using this)
        go_wp2
        go_ret
        exact ⟨by rw [HQ.out]; rfl, HB.out⟩
  · have HQ := hidp (show decide (xs = ys) = false by simp; intro e; subst e; omega)
    have hb : ((n : Int) == (m : Int)) = false := by simp; omega
    clear hlx hly
    go_enter Try.func37, Try.ntmps37
    go_wp2
    go_ret
    exact ⟨by rw [HQ.out]; rfl, Below.refl _ _⟩
theorem str_bytes (w : World) (a : Option Addr) (n c : Nat) (bs : List Int) (h : RowV w a n 1 (bs.map (Value.int .u8))) : (convert 79 9 (.slice a n c)).run Try.prog w = .ok (.string (strOfNums bs)) w := by
  have hl : bs.length = n := by simpa using h.1
  rcases Nat.eq_zero_or_pos n with h0 | h0
  · subst h0
    obtain rfl : bs = [] := List.eq_nil_of_length_eq_zero hl
    rw [run_convert_bytes_string w 79 9 5 _ 0 c Try.underlying79 Try.underlying5 Try.underlying9]
    cases a with
    | none => rfl
    | some ad => rfl
  · obtain ⟨g, o, rfl, hr⟩ := h.2 h0
    have hlc : (loadCells ⟨g, o, none⟩ n).run Try.prog w = .ok (bs.map (Value.int .u8)).toArray w := by
      have := run_loadCells_list (P := Try.prog) w ⟨g, o, none⟩ (bs.map (Value.int .u8)) (fun j v hj => by rw [Addr.add_lit]; exact hr j v hj)
      rw [show (bs.map (Value.int .u8)).length = n by simpa using hl] at this
      exact this
    rw [run_convert_bytes_string w 79 9 5 _ n c Try.underlying79 Try.underlying5 Try.underlying9, run_bytesToString w _ n c _ hlc, foldl_push_bytes]
    simp [strOfNums, ByteArray.empty, ByteArray.emptyWithCapacity]
    rfl
theorem strOfNums_inj {xs ys : List Int} (hx : ∀ x ∈ xs, 0 ≤ x ∧ x ≤ 255) (hy : ∀ x ∈ ys, 0 ≤ x ∧ x ≤ 255) (h : strOfNums xs = strOfNums ys) : xs = ys := by
  have h2 : xs.map (fun n => UInt8.ofNat n.toNat) = ys.map fun n => UInt8.ofNat n.toNat := by
    have := congrArg (fun s : ByteArray => s.data.toList) h
    simpa [strOfNums_data] using this
  clear h
  induction xs generalizing ys with
  | nil => cases ys with
    | nil => rfl
    | cons y r => cases h2
  | cons x r ih =>
    cases ys with
    | nil => cases h2
    | cons y s =>
      simp only [List.map_cons, List.cons.injEq] at h2
      have e1 := hx x (by simp)
      have e2 := hy y (by simp)
      have hxy : x = y := by
        have := congrArg UInt8.toNat h2.1
        simp only [UInt8.toNat_ofNat'] at this
        omega
      rw [hxy, ih (fun z hz => hx z (by simp [hz])) (fun z hz => hy z (by simp [hz])) h2.2]
theorem same38_any (a b : Option Addr) (n m c d : Nat) (xs ys : List Int) (w : World) (hx : RowV w a n 1 (xs.map (Value.int .u8))) (hy : RowV w b m 1 (ys.map (Value.int .u8))) (rx : ∀ x ∈ xs, 0 ≤ x ∧ x ≤ 255) (ry : ∀ x ∈ ys, 0 ≤ x ∧ x ≤ 255) :
    Calls Try.prog 38 #[.slice a n c, .slice b m d] w fun e w' => e = .returned (.bool (decide (xs = ys))) ∧ Below w.heap.size w w' := by
  have s1 := str_bytes w a n c xs hx
  have s2 := str_bytes w b m d ys hy
  have HQ := hidp (show ((strOfNums xs).toList == (strOfNums ys).toList) = decide (xs = ys) by
    rw [ByteArray.toList_eq, ByteArray.toList_eq]
    by_cases h : xs = ys
    · rw [decide_eq_true h, h]
      exact beq_self_eq_true _
    · rw [decide_eq_false h]
      refine beq_eq_false_iff_ne.2 fun e => h (strOfNums_inj rx ry ?_)
      unfold strOfNums at e ⊢
      rw [ByteArray.mk.injEq]
      exact Array.toList_inj.1 e)
  generalize strOfNums xs = X at *
  generalize strOfNums ys = Y at *
  clear hx hy rx ry
  go_enter Try.func38, Try.ntmps38
  go_wp2
  go_ret
  exact ⟨by rw [← HQ.out]; rfl, Below.refl _ _⟩
set_option maxRecDepth 100000 in
set_option maxHeartbeats 4000000 in
theorem same36_any (a b : Option Addr) (n m c d : Nat) (S T : List Sg) (w : World) (hx : RowV w a n 2 (S.flatMap Sg.cells)) (hxl : S.length = n) (hy : RowV w b m 2 (T.flatMap Sg.cells)) (hyl : T.length = m) (hn : n ≤ 9223372036854775807)
    (hE : ∀ s ∈ S, ∀ t ∈ T, ∀ W, Below w.heap.size w W → Calls Try.prog 37 #[.slice s.a s.n s.c, .slice t.a t.n t.c] W fun e W' => e = .returned (.bool (decide (s.nums = t.nums))) ∧ Below W.heap.size W W') :
    Calls Try.prog 36 #[.slice a n c, .slice b m d] w fun e w' => e = .returned (.bool (decide (S.map Sg.key = T.map Sg.key))) ∧ Below w.heap.size w w' := by
  have HX := hidp hx
  have HY := hidp hy
  have HLX := hidp hxl
  have HLY := hidp hyl
  have HE := hidp hE
  clear hx hy hxl hyl hE
  by_cases hnm : n = m
  · subst hnm
    go_enter Try.func36, Try.ntmps36
    go_wp2
    go_loopw [5] (fun i wr => ∃ j : Nat, j ≤ n ∧ i = .int .i64 j ∧ Hid ((S.take j).map Sg.key = (T.take j).map Sg.key) ∧ Hid (Below w.heap.size w wr)) (fun i _ => n - (intOf i).toNat)
    case atStart => exact ⟨0, by omega, rfl, rfl, Below.refl _ _⟩
    case round =>
      obtain ⟨j, hj, rfl, HP, HB⟩ := hrel
      by_cases hlt : j < n
      · obtain ⟨g, o, rfl, hc⟩ := (HX.out.below HB.out).2 (by omega)
        obtain ⟨g', o', rfl, hc'⟩ := (HY.out.below HB.out).2 (by omega)
        have jx : j < S.length := by rw [HLX.out]; exact hlt
        have jy : j < T.length := by rw [HLY.out]; exact hlt
        have c0 := hc (j * 2 + 0) _ (flat_get Sg.cells 2 (fun _ => rfl) S j 0 jx (by decide))
        have d0 := hc' (j * 2 + 0) _ (flat_get Sg.cells 2 (fun _ => rfl) T j 0 jy (by decide))
        have c1 := hc (j * 2 + 1) _ (flat_get Sg.cells 2 (fun _ => rfl) S j 1 jx (by decide))
        have d1 := hc' (j * 2 + 1) _ (flat_get Sg.cells 2 (fun _ => rfl) T j 1 jy (by decide))
        rw [Nat.add_zero] at c0 d0
        rw [← Nat.add_assoc] at c1 d1
        have HN0 := hidp (show S[j].key = T[j].key → (S.take (j + 1)).map Sg.key = (T.take (j + 1)).map Sg.key from fun h => by rw [List.take_add_one, List.take_add_one, List.map_append, List.map_append, HP.out, List.getElem?_eq_getElem jx, List.getElem?_eq_getElem jy]; simp [h])
        have HM0 := hidp (show S[j].key ≠ T[j].key → decide (S.map Sg.key = T.map Sg.key) = false from fun h => by
          simp only [decide_eq_false_iff_not]
          intro e
          apply h
          have e2 : (S.map Sg.key)[j]? = (T.map Sg.key)[j]? := by rw [e]
          rw [List.getElem?_map, List.getElem?_map, List.getElem?_eq_getElem jx, List.getElem?_eq_getElem jy] at e2
          simpa using e2)
        have HC0 := hidp (HE.out _ (List.getElem_mem jx) _ (List.getElem_mem jy))
        generalize S[j] = s at *
        generalize T[j] = t at *
        have HC := hidp (fun W (hW : Below wr.heap.size wr W) => HC0.out W (HB.out.trans (hW.mono HB.out.size)))
        have C0 := hidp (fun W (hW : Below wr.heap.size wr W) => below_cell hW (Nat.le_refl _) _ _ c0)
        have D0 := hidp (fun W (hW : Below wr.heap.size wr W) => below_cell hW (Nat.le_refl _) _ _ d0)
        have C1 := hidp (fun W (hW : Below wr.heap.size wr W) => below_cell hW (Nat.le_refl _) _ _ c1)
        have D1 := hidp (fun W (hW : Below wr.heap.size wr W) => below_cell hW (Nat.le_refl _) _ _ d1)
        have l1 : (j : Int) < (n : Int) := by omega
        have L1 := hidp l1
        clear hc hc' jx jy c0 d0 c1 d1 HC0
        by_cases hk : s.kind = t.kind
        · have HBB := hidp (show (s.kind != t.kind) = false by simp [hk])
          have HN := hidp (show s.nums = t.nums → _ from fun h => HN0.out (by simp [Sg.key, hk, h]))
          have HM := hidp (show s.nums ≠ t.nums → _ from fun h => HM0.out (by simp [Sg.key, hk, h]))
          clear HN0 HM0 hk
          go_upto_region 6 with (fail)
          refine wp_region_flow2 (fun iqv => ([(.slice (some ⟨g, o, none⟩) n c : Value), (.int .i64 (j : Int) : Value), (.pointer (some ⟨g, o + j * 2, none⟩) : Value), (.pointer (some ⟨g, o + j * 2, none⟩) : Value), (.int .i64 s.kind : Value), (.slice (some ⟨g', o', none⟩) n d : Value), (.int .i64 (j : Int) : Value), (.pointer (some ⟨g', o' + j * 2, none⟩) : Value), (.pointer (some ⟨g', o' + j * 2, none⟩) : Value), (.int .i64 t.kind : Value), (.bool false : Value), (.bool false : Value), (.slice (some ⟨g, o, none⟩) n c : Value), (.int .i64 (j : Int) : Value), (.pointer (some ⟨g, o + j * 2, none⟩) : Value), (.pointer (some ⟨g, o + j * 2 + 1, none⟩) : Value), (.slice s.a s.n s.c : Value), (.slice (some ⟨g', o', none⟩) n d : Value), (.int .i64 (j : Int) : Value), (.pointer (some ⟨g', o' + j * 2, none⟩) : Value), (.pointer (some ⟨g', o' + j * 2 + 1, none⟩) : Value), (.slice t.a t.n t.c : Value), (.bool (decide (s.nums = t.nums)) : Value), (.bool (!decide (s.nums = t.nums)) : Value), (.bool (!decide (s.nums = t.nums)) : Value)] : List Value).getD iqv undef) [(some 17, .slice (some ⟨g, o, none⟩) n c), (some 18, .int .i64 (j : Int)), (some 19, .pointer (some ⟨g, o + j * 2, none⟩)), (some 20, .pointer (some ⟨g, o + j * 2, none⟩)), (some 21, .int .i64 s.kind), (some 22, .slice (some ⟨g', o', none⟩) n d), (some 23, .int .i64 (j : Int)), (some 24, .pointer (some ⟨g', o' + j * 2, none⟩)), (some 25, .pointer (some ⟨g', o' + j * 2, none⟩)), (some 26, .int .i64 t.kind), (some 27, .bool false), (some 28, .bool false), (some 29, .slice (some ⟨g, o, none⟩) n c), (some 30, .int .i64 (j : Int)), (some 31, .pointer (some ⟨g, o + j * 2, none⟩)), (some 32, .pointer (some ⟨g, o + j * 2 + 1, none⟩)), (some 33, .slice s.a s.n s.c), (some 34, .slice (some ⟨g', o', none⟩) n d), (some 35, .int .i64 (j : Int)), (some 36, .pointer (some ⟨g', o' + j * 2, none⟩)), (some 37, .pointer (some ⟨g', o' + j * 2 + 1, none⟩)), (some 38, .slice t.a t.n t.c), (some 39, .bool (decide (s.nums = t.nums))), (some 40, .bool (!decide (s.nums = t.nums))), (some 41, .bool (!decide (s.nums = t.nums)))] (fun W : World => Below wr.heap.size wr W) (by kernel_rfl) (by kernel_rfl) ((Below.refl _ _).drew) (fun iq hiq => ?_) (by kernel_rfl) (fun W hSW => ?_)
          · match iq, hiq with
            | 0, _ =>
              intro aq W hSW hf
              have v0 : aq.tmps[0]? = some (.slice (some ⟨g, o, none⟩) n c) := (hf.at_base 0 (by kernel_rfl)).trans rfl
              clear hf
              refine wpOp_flow rfl (by rfl) (fun Kq hK => ?_)
              go_simp
              exact hK _ _ ⟨rfl, hSW⟩
            | 1, _ =>
              intro aq W hSW hf
              have v5 : aq.tmps[5]? = some (.int .i64 (j : Int)) := (hf.at_base 5 (by kernel_rfl)).trans rfl
              clear hf
              refine wpOp_flow rfl (by rfl) (fun Kq hK => ?_)
              go_simp
              exact hK _ _ ⟨rfl, hSW⟩
            | 2, _ =>
              intro aq W hSW hf
              have v17 : aq.tmps[17]? = some (.slice (some ⟨g, o, none⟩) n c) := hf.val 0 17 (by kernel_rfl) rfl
              have v18 : aq.tmps[18]? = some (.int .i64 (j : Int)) := hf.val 1 18 (by kernel_rfl) rfl
              clear hf
              refine wpOp_flow rfl (by rfl) (fun Kq hK => ?_)
              have l1 := L1.out
              go_simp
              exact hK _ _ ⟨rfl, hSW⟩
            | 3, _ =>
              intro aq W hSW hf
              have v19 : aq.tmps[19]? = some (.pointer (some ⟨g, o + j * 2, none⟩)) := hf.val 2 19 (by kernel_rfl) rfl
              clear hf
              refine wpOp_flow rfl (by rfl) (fun Kq hK => ?_)
              go_simp
              exact hK _ _ ⟨rfl, hSW⟩
            | 4, _ =>
              intro aq W hSW hf
              have v20 : aq.tmps[20]? = some (.pointer (some ⟨g, o + j * 2, none⟩)) := hf.val 3 20 (by kernel_rfl) rfl
              clear hf
              refine wpOp_flow rfl (by rfl) (fun Kq hK => ?_)
              have k := C0.out W hSW
              go_simp
              exact hK _ _ ⟨rfl, hSW⟩
            | 5, _ =>
              intro aq W hSW hf
              have v1 : aq.tmps[1]? = some (.slice (some ⟨g', o', none⟩) n d) := (hf.at_base 1 (by kernel_rfl)).trans rfl
              clear hf
              refine wpOp_flow rfl (by rfl) (fun Kq hK => ?_)
              go_simp
              exact hK _ _ ⟨rfl, hSW⟩
            | 6, _ =>
              intro aq W hSW hf
              have v5 : aq.tmps[5]? = some (.int .i64 (j : Int)) := (hf.at_base 5 (by kernel_rfl)).trans rfl
              clear hf
              refine wpOp_flow rfl (by rfl) (fun Kq hK => ?_)
              go_simp
              exact hK _ _ ⟨rfl, hSW⟩
            | 7, _ =>
              intro aq W hSW hf
              have v22 : aq.tmps[22]? = some (.slice (some ⟨g', o', none⟩) n d) := hf.val 5 22 (by kernel_rfl) rfl
              have v23 : aq.tmps[23]? = some (.int .i64 (j : Int)) := hf.val 6 23 (by kernel_rfl) rfl
              clear hf
              refine wpOp_flow rfl (by rfl) (fun Kq hK => ?_)
              have l1 := L1.out
              go_simp
              exact hK _ _ ⟨rfl, hSW⟩
            | 8, _ =>
              intro aq W hSW hf
              have v24 : aq.tmps[24]? = some (.pointer (some ⟨g', o' + j * 2, none⟩)) := hf.val 7 24 (by kernel_rfl) rfl
              clear hf
              refine wpOp_flow rfl (by rfl) (fun Kq hK => ?_)
              go_simp
              exact hK _ _ ⟨rfl, hSW⟩
            | 9, _ =>
              intro aq W hSW hf
              have v25 : aq.tmps[25]? = some (.pointer (some ⟨g', o' + j * 2, none⟩)) := hf.val 8 25 (by kernel_rfl) rfl
              clear hf
              refine wpOp_flow rfl (by rfl) (fun Kq hK => ?_)
              have k := D0.out W hSW
              go_simp
              exact hK _ _ ⟨rfl, hSW⟩
            | 10, _ =>
              intro aq W hSW hf
              have v21 : aq.tmps[21]? = some (.int .i64 s.kind) := hf.val 4 21 (by kernel_rfl) rfl
              have v26 : aq.tmps[26]? = some (.int .i64 t.kind) := hf.val 9 26 (by kernel_rfl) rfl
              clear hf
              refine wpOp_flow rfl (by rfl) (fun Kq hK => ?_)
              have hb := HBB.out
              go_simp
              exact hK _ _ ⟨rfl, hSW⟩
            | 11, _ =>
              intro aq W hSW hf
              have v27 : aq.tmps[27]? = some (.bool false) := hf.val 10 27 (by kernel_rfl) rfl
              clear hf
              refine wpOp_flow rfl (by rfl) (fun Kq hK => ?_)
              go_simp
              exact hK _ _ ⟨rfl, hSW⟩
            | 12, _ =>
              intro aq W hSW hf
              have v0 : aq.tmps[0]? = some (.slice (some ⟨g, o, none⟩) n c) := (hf.at_base 0 (by kernel_rfl)).trans rfl
              have v28 : aq.tmps[28]? = some (.bool false) := hf.val 11 28 (by kernel_rfl) rfl
              clear hf
              refine wpOp_flow rfl (wanted_of rfl rfl v28) (fun Kq hK => ?_)
              go_simp
              exact hK _ _ ⟨rfl, hSW⟩
            | 13, _ =>
              intro aq W hSW hf
              have v5 : aq.tmps[5]? = some (.int .i64 (j : Int)) := (hf.at_base 5 (by kernel_rfl)).trans rfl
              have v28 : aq.tmps[28]? = some (.bool false) := hf.val 11 28 (by kernel_rfl) rfl
              clear hf
              refine wpOp_flow rfl (wanted_of rfl rfl v28) (fun Kq hK => ?_)
              go_simp
              exact hK _ _ ⟨rfl, hSW⟩
            | 14, _ =>
              intro aq W hSW hf
              have v28 : aq.tmps[28]? = some (.bool false) := hf.val 11 28 (by kernel_rfl) rfl
              have v29 : aq.tmps[29]? = some (.slice (some ⟨g, o, none⟩) n c) := hf.val 12 29 (by kernel_rfl) rfl
              have v30 : aq.tmps[30]? = some (.int .i64 (j : Int)) := hf.val 13 30 (by kernel_rfl) rfl
              clear hf
              refine wpOp_flow rfl (wanted_of rfl rfl v28) (fun Kq hK => ?_)
              have l1 := L1.out
              go_simp
              exact hK _ _ ⟨rfl, hSW⟩
            | 15, _ =>
              intro aq W hSW hf
              have v28 : aq.tmps[28]? = some (.bool false) := hf.val 11 28 (by kernel_rfl) rfl
              have v31 : aq.tmps[31]? = some (.pointer (some ⟨g, o + j * 2, none⟩)) := hf.val 14 31 (by kernel_rfl) rfl
              clear hf
              refine wpOp_flow rfl (wanted_of rfl rfl v28) (fun Kq hK => ?_)
              go_simp
              exact hK _ _ ⟨rfl, hSW⟩
            | 16, _ =>
              intro aq W hSW hf
              have v28 : aq.tmps[28]? = some (.bool false) := hf.val 11 28 (by kernel_rfl) rfl
              have v32 : aq.tmps[32]? = some (.pointer (some ⟨g, o + j * 2 + 1, none⟩)) := hf.val 15 32 (by kernel_rfl) rfl
              clear hf
              refine wpOp_flow rfl (wanted_of rfl rfl v28) (fun Kq hK => ?_)
              have k := C1.out W hSW
              go_simp
              exact hK _ _ ⟨rfl, hSW⟩
            | 17, _ =>
              intro aq W hSW hf
              have v1 : aq.tmps[1]? = some (.slice (some ⟨g', o', none⟩) n d) := (hf.at_base 1 (by kernel_rfl)).trans rfl
              have v28 : aq.tmps[28]? = some (.bool false) := hf.val 11 28 (by kernel_rfl) rfl
              clear hf
              refine wpOp_flow rfl (wanted_of rfl rfl v28) (fun Kq hK => ?_)
              go_simp
              exact hK _ _ ⟨rfl, hSW⟩
            | 18, _ =>
              intro aq W hSW hf
              have v5 : aq.tmps[5]? = some (.int .i64 (j : Int)) := (hf.at_base 5 (by kernel_rfl)).trans rfl
              have v28 : aq.tmps[28]? = some (.bool false) := hf.val 11 28 (by kernel_rfl) rfl
              clear hf
              refine wpOp_flow rfl (wanted_of rfl rfl v28) (fun Kq hK => ?_)
              go_simp
              exact hK _ _ ⟨rfl, hSW⟩
            | 19, _ =>
              intro aq W hSW hf
              have v28 : aq.tmps[28]? = some (.bool false) := hf.val 11 28 (by kernel_rfl) rfl
              have v34 : aq.tmps[34]? = some (.slice (some ⟨g', o', none⟩) n d) := hf.val 17 34 (by kernel_rfl) rfl
              have v35 : aq.tmps[35]? = some (.int .i64 (j : Int)) := hf.val 18 35 (by kernel_rfl) rfl
              clear hf
              refine wpOp_flow rfl (wanted_of rfl rfl v28) (fun Kq hK => ?_)
              have l1 := L1.out
              go_simp
              exact hK _ _ ⟨rfl, hSW⟩
            | 20, _ =>
              intro aq W hSW hf
              have v28 : aq.tmps[28]? = some (.bool false) := hf.val 11 28 (by kernel_rfl) rfl
              have v36 : aq.tmps[36]? = some (.pointer (some ⟨g', o' + j * 2, none⟩)) := hf.val 19 36 (by kernel_rfl) rfl
              clear hf
              refine wpOp_flow rfl (wanted_of rfl rfl v28) (fun Kq hK => ?_)
              go_simp
              exact hK _ _ ⟨rfl, hSW⟩
            | 21, _ =>
              intro aq W hSW hf
              have v28 : aq.tmps[28]? = some (.bool false) := hf.val 11 28 (by kernel_rfl) rfl
              have v37 : aq.tmps[37]? = some (.pointer (some ⟨g', o' + j * 2 + 1, none⟩)) := hf.val 20 37 (by kernel_rfl) rfl
              clear hf
              refine wpOp_flow rfl (wanted_of rfl rfl v28) (fun Kq hK => ?_)
              have k := D1.out W hSW
              go_simp
              exact hK _ _ ⟨rfl, hSW⟩
            | 22, _ =>
              intro aq W hSW hf
              have v28 : aq.tmps[28]? = some (.bool false) := hf.val 11 28 (by kernel_rfl) rfl
              have v33 : aq.tmps[33]? = some (.slice s.a s.n s.c) := hf.val 16 33 (by kernel_rfl) rfl
              have v38 : aq.tmps[38]? = some (.slice t.a t.n t.c) := hf.val 21 38 (by kernel_rfl) rfl
              clear hf
              refine wpOp_flow rfl (wanted_of rfl rfl v28) (fun Kq hK => ?_)
              go_simp
              refine (HC.out W hSW).mono ?_
              rintro e w19 ⟨rfl, B19⟩
              exact hK _ _ ⟨rfl, hSW.trans (B19.mono hSW.size)⟩
            | 23, _ =>
              intro aq W hSW hf
              have v28 : aq.tmps[28]? = some (.bool false) := hf.val 11 28 (by kernel_rfl) rfl
              have v39 : aq.tmps[39]? = some (.bool (decide (s.nums = t.nums))) := hf.val 22 39 (by kernel_rfl) rfl
              clear hf
              refine wpOp_flow rfl (wanted_of rfl rfl v28) (fun Kq hK => ?_)
              go_simp
              exact hK _ _ ⟨rfl, hSW⟩
            | 24, _ =>
              intro aq W hSW hf
              have v28 : aq.tmps[28]? = some (.bool false) := hf.val 11 28 (by kernel_rfl) rfl
              have v40 : aq.tmps[40]? = some (.bool (!decide (s.nums = t.nums))) := hf.val 23 40 (by kernel_rfl) rfl
              clear hf
              refine wpOp_flow rfl (by rfl) (fun Kq hK => ?_)
              go_simp
              exact hK _ _ ⟨rfl, hSW⟩
            | kq + 25, hk => exact absurd hk (by first | omega | (intro h; simp at h; omega))
          · simp only [puts, Act.put, List.setIfInBounds_toArray, List.set_cons_zero, List.set_cons_succ]
            have HB2 := hidp (HB.out.trans (hSW.mono HB.out.size))
            clear hSW
            cases hq : decide (s.nums = t.nums) with
            | false =>
              have HQ := hidp (HM.out (by simpa using hq))
              go_wp2
              go_ret
              exact ⟨by rw [HQ.out]; rfl, HB2.out⟩
            | true =>
              have HQ := hidp (HN.out (by simpa using hq))
              go_wp2
              go_roundw
              case rel => exact ⟨j + 1, by omega, by go_num, HQ, HB2⟩
              case measure => simp [intOf]; omega
        · have HBB := hidp (show (s.kind != t.kind) = true by simp [hk])
          have HQ := hidp (HM0.out (by simp [Sg.key, hk]))
          clear HN0 HM0 hk
          go_upto_region 6 with (fail)
          refine wp_region_flow2 (fun iqv => ([(.slice (some ⟨g, o, none⟩) n c : Value), (.int .i64 (j : Int) : Value), (.pointer (some ⟨g, o + j * 2, none⟩) : Value), (.pointer (some ⟨g, o + j * 2, none⟩) : Value), (.int .i64 s.kind : Value), (.slice (some ⟨g', o', none⟩) n d : Value), (.int .i64 (j : Int) : Value), (.pointer (some ⟨g', o' + j * 2, none⟩) : Value), (.pointer (some ⟨g', o' + j * 2, none⟩) : Value), (.int .i64 t.kind : Value), (.bool true : Value), (.bool true : Value), (undef : Value), (undef : Value), (undef : Value), (undef : Value), (undef : Value), (undef : Value), (undef : Value), (undef : Value), (undef : Value), (undef : Value), (undef : Value), (undef : Value), (.bool true : Value)] : List Value).getD iqv undef) [(some 17, .slice (some ⟨g, o, none⟩) n c), (some 18, .int .i64 (j : Int)), (some 19, .pointer (some ⟨g, o + j * 2, none⟩)), (some 20, .pointer (some ⟨g, o + j * 2, none⟩)), (some 21, .int .i64 s.kind), (some 22, .slice (some ⟨g', o', none⟩) n d), (some 23, .int .i64 (j : Int)), (some 24, .pointer (some ⟨g', o' + j * 2, none⟩)), (some 25, .pointer (some ⟨g', o' + j * 2, none⟩)), (some 26, .int .i64 t.kind), (some 27, .bool true), (some 28, .bool true), (some 29, undef), (some 30, undef), (some 31, undef), (some 32, undef), (some 33, undef), (some 34, undef), (some 35, undef), (some 36, undef), (some 37, undef), (some 38, undef), (some 39, undef), (some 40, undef), (some 41, .bool true)] (fun W : World => Below wr.heap.size wr W) (by kernel_rfl) (by kernel_rfl) ((Below.refl _ _).drew) (fun iq hiq => ?_) (by kernel_rfl) (fun W hSW => ?_)
          · match iq, hiq with
            | 0, _ =>
              intro aq W hSW hf
              have v0 : aq.tmps[0]? = some (.slice (some ⟨g, o, none⟩) n c) := (hf.at_base 0 (by kernel_rfl)).trans rfl
              clear hf
              refine wpOp_flow rfl (by rfl) (fun Kq hK => ?_)
              go_simp
              exact hK _ _ ⟨rfl, hSW⟩
            | 1, _ =>
              intro aq W hSW hf
              have v5 : aq.tmps[5]? = some (.int .i64 (j : Int)) := (hf.at_base 5 (by kernel_rfl)).trans rfl
              clear hf
              refine wpOp_flow rfl (by rfl) (fun Kq hK => ?_)
              go_simp
              exact hK _ _ ⟨rfl, hSW⟩
            | 2, _ =>
              intro aq W hSW hf
              have v17 : aq.tmps[17]? = some (.slice (some ⟨g, o, none⟩) n c) := hf.val 0 17 (by kernel_rfl) rfl
              have v18 : aq.tmps[18]? = some (.int .i64 (j : Int)) := hf.val 1 18 (by kernel_rfl) rfl
              clear hf
              refine wpOp_flow rfl (by rfl) (fun Kq hK => ?_)
              have l1 := L1.out
              go_simp
              exact hK _ _ ⟨rfl, hSW⟩
            | 3, _ =>
              intro aq W hSW hf
              have v19 : aq.tmps[19]? = some (.pointer (some ⟨g, o + j * 2, none⟩)) := hf.val 2 19 (by kernel_rfl) rfl
              clear hf
              refine wpOp_flow rfl (by rfl) (fun Kq hK => ?_)
              go_simp
              exact hK _ _ ⟨rfl, hSW⟩
            | 4, _ =>
              intro aq W hSW hf
              have v20 : aq.tmps[20]? = some (.pointer (some ⟨g, o + j * 2, none⟩)) := hf.val 3 20 (by kernel_rfl) rfl
              clear hf
              refine wpOp_flow rfl (by rfl) (fun Kq hK => ?_)
              have k := C0.out W hSW
              go_simp
              exact hK _ _ ⟨rfl, hSW⟩
            | 5, _ =>
              intro aq W hSW hf
              have v1 : aq.tmps[1]? = some (.slice (some ⟨g', o', none⟩) n d) := (hf.at_base 1 (by kernel_rfl)).trans rfl
              clear hf
              refine wpOp_flow rfl (by rfl) (fun Kq hK => ?_)
              go_simp
              exact hK _ _ ⟨rfl, hSW⟩
            | 6, _ =>
              intro aq W hSW hf
              have v5 : aq.tmps[5]? = some (.int .i64 (j : Int)) := (hf.at_base 5 (by kernel_rfl)).trans rfl
              clear hf
              refine wpOp_flow rfl (by rfl) (fun Kq hK => ?_)
              go_simp
              exact hK _ _ ⟨rfl, hSW⟩
            | 7, _ =>
              intro aq W hSW hf
              have v22 : aq.tmps[22]? = some (.slice (some ⟨g', o', none⟩) n d) := hf.val 5 22 (by kernel_rfl) rfl
              have v23 : aq.tmps[23]? = some (.int .i64 (j : Int)) := hf.val 6 23 (by kernel_rfl) rfl
              clear hf
              refine wpOp_flow rfl (by rfl) (fun Kq hK => ?_)
              have l1 := L1.out
              go_simp
              exact hK _ _ ⟨rfl, hSW⟩
            | 8, _ =>
              intro aq W hSW hf
              have v24 : aq.tmps[24]? = some (.pointer (some ⟨g', o' + j * 2, none⟩)) := hf.val 7 24 (by kernel_rfl) rfl
              clear hf
              refine wpOp_flow rfl (by rfl) (fun Kq hK => ?_)
              go_simp
              exact hK _ _ ⟨rfl, hSW⟩
            | 9, _ =>
              intro aq W hSW hf
              have v25 : aq.tmps[25]? = some (.pointer (some ⟨g', o' + j * 2, none⟩)) := hf.val 8 25 (by kernel_rfl) rfl
              clear hf
              refine wpOp_flow rfl (by rfl) (fun Kq hK => ?_)
              have k := D0.out W hSW
              go_simp
              exact hK _ _ ⟨rfl, hSW⟩
            | 10, _ =>
              intro aq W hSW hf
              have v21 : aq.tmps[21]? = some (.int .i64 s.kind) := hf.val 4 21 (by kernel_rfl) rfl
              have v26 : aq.tmps[26]? = some (.int .i64 t.kind) := hf.val 9 26 (by kernel_rfl) rfl
              clear hf
              refine wpOp_flow rfl (by rfl) (fun Kq hK => ?_)
              have hb := HBB.out
              go_simp
              exact hK _ _ ⟨rfl, hSW⟩
            | 11, _ =>
              intro aq W hSW hf
              have v27 : aq.tmps[27]? = some (.bool true) := hf.val 10 27 (by kernel_rfl) rfl
              clear hf
              refine wpOp_flow rfl (by rfl) (fun Kq hK => ?_)
              go_simp
              exact hK _ _ ⟨rfl, hSW⟩
            | 12, _ =>
              intro aq W hSW hf
              have v28 : aq.tmps[28]? = some (.bool true) := hf.val 11 28 (by kernel_rfl) rfl
              clear hf
              exact wpOp_skip rfl (unwanted_of rfl rfl v28) ⟨rfl, hSW⟩
            | 13, _ =>
              intro aq W hSW hf
              have v28 : aq.tmps[28]? = some (.bool true) := hf.val 11 28 (by kernel_rfl) rfl
              clear hf
              exact wpOp_skip rfl (unwanted_of rfl rfl v28) ⟨rfl, hSW⟩
            | 14, _ =>
              intro aq W hSW hf
              have v28 : aq.tmps[28]? = some (.bool true) := hf.val 11 28 (by kernel_rfl) rfl
              clear hf
              exact wpOp_skip rfl (unwanted_of rfl rfl v28) ⟨rfl, hSW⟩
            | 15, _ =>
              intro aq W hSW hf
              have v28 : aq.tmps[28]? = some (.bool true) := hf.val 11 28 (by kernel_rfl) rfl
              clear hf
              exact wpOp_skip rfl (unwanted_of rfl rfl v28) ⟨rfl, hSW⟩
            | 16, _ =>
              intro aq W hSW hf
              have v28 : aq.tmps[28]? = some (.bool true) := hf.val 11 28 (by kernel_rfl) rfl
              clear hf
              exact wpOp_skip rfl (unwanted_of rfl rfl v28) ⟨rfl, hSW⟩
            | 17, _ =>
              intro aq W hSW hf
              have v28 : aq.tmps[28]? = some (.bool true) := hf.val 11 28 (by kernel_rfl) rfl
              clear hf
              exact wpOp_skip rfl (unwanted_of rfl rfl v28) ⟨rfl, hSW⟩
            | 18, _ =>
              intro aq W hSW hf
              have v28 : aq.tmps[28]? = some (.bool true) := hf.val 11 28 (by kernel_rfl) rfl
              clear hf
              exact wpOp_skip rfl (unwanted_of rfl rfl v28) ⟨rfl, hSW⟩
            | 19, _ =>
              intro aq W hSW hf
              have v28 : aq.tmps[28]? = some (.bool true) := hf.val 11 28 (by kernel_rfl) rfl
              clear hf
              exact wpOp_skip rfl (unwanted_of rfl rfl v28) ⟨rfl, hSW⟩
            | 20, _ =>
              intro aq W hSW hf
              have v28 : aq.tmps[28]? = some (.bool true) := hf.val 11 28 (by kernel_rfl) rfl
              clear hf
              exact wpOp_skip rfl (unwanted_of rfl rfl v28) ⟨rfl, hSW⟩
            | 21, _ =>
              intro aq W hSW hf
              have v28 : aq.tmps[28]? = some (.bool true) := hf.val 11 28 (by kernel_rfl) rfl
              clear hf
              exact wpOp_skip rfl (unwanted_of rfl rfl v28) ⟨rfl, hSW⟩
            | 22, _ =>
              intro aq W hSW hf
              have v28 : aq.tmps[28]? = some (.bool true) := hf.val 11 28 (by kernel_rfl) rfl
              clear hf
              exact wpOp_skip rfl (unwanted_of rfl rfl v28) ⟨rfl, hSW⟩
            | 23, _ =>
              intro aq W hSW hf
              have v28 : aq.tmps[28]? = some (.bool true) := hf.val 11 28 (by kernel_rfl) rfl
              clear hf
              exact wpOp_skip rfl (unwanted_of rfl rfl v28) ⟨rfl, hSW⟩
            | 24, _ =>
              intro aq W hSW hf
              have v28 : aq.tmps[28]? = some (.bool true) := hf.val 11 28 (by kernel_rfl) rfl
              have v40 : aq.tmps[40]? = some (undef) := hf.val 23 40 (by kernel_rfl) rfl
              clear hf
              refine wpOp_flow rfl (by rfl) (fun Kq hK => ?_)
              go_simp
              exact hK _ _ ⟨rfl, hSW⟩
            | kq + 25, hk => exact absurd hk (by first | omega | (intro h; simp at h; omega))
          · simp only [puts, Act.put, List.setIfInBounds_toArray, List.set_cons_zero, List.set_cons_succ]
            have HB2 := hidp (HB.out.trans (hSW.mono HB.out.size))
            clear hSW
            go_wp2
            go_ret
            exact ⟨by rw [HQ.out]; rfl, HB2.out⟩
      · have l1 : ¬ (j : Int) < (n : Int) := by omega
        obtain rfl : j = n := by omega
        have HQ := hidp (show decide (S.map Sg.key = T.map Sg.key) = true by
          have := HP.out
          rw [List.take_of_length_le (by rw [HLX.out]; omega), List.take_of_length_le (by rw [HLY.out]; omega)] at this
          simpa using this)
        go_wp2
        go_ret
        exact ⟨by rw [HQ.out]; rfl, HB.out⟩
  · have HQ := hidp (show decide (S.map Sg.key = T.map Sg.key) = false by
      simp only [decide_eq_false_iff_not]
      intro e
      have := congrArg List.length e
      simp only [List.length_map] at this
      rw [HLX.out, HLY.out] at this
      exact hnm this)
    have hb : ((n : Int) == (m : Int)) = false := by simp; omega
    go_enter Try.func36, Try.ntmps36
    go_wp2
    go_ret
    exact ⟨by rw [HQ.out]; rfl, Below.refl _ _⟩
end Go.Proofs.Ytnenpfalhbbadaa
