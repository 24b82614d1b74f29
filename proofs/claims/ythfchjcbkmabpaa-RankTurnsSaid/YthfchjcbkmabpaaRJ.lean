/- Of any two candidates: the program's Compare. -/
import Derived.Test.YthfchjcbkmabpaaRA
namespace Go.Proofs.Ythfchjcbkmabpaa
open Go.RowKit

structure SKK (k : Nat) (a b : Cnd) (w W : World) : Prop where
  blkA : W.heap[k]? = some (.cells a.cells.toArray 34 (0, 0))
  blkB : W.heap[k + 1]? = some (.cells b.cells.toArray 34 (0, 0))
  bel : Below k w W
theorem SKK.below {k : Nat} {a b : Cnd} {w W W' : World} (h : SKK k a b w W) (hB : Below W.heap.size W W') : SKK k a b w W' :=
  ⟨heap_below hB h.blkA (ltOf h.blkA), heap_below hB h.blkB (ltOf h.blkB), h.bel.trans (hB.mono (Nat.le_of_lt (ltOf h.blkA)))⟩
theorem SKK.rA {k : Nat} {a b : Cnd} {w W : World} (h : SKK k a b w W) : W.rangeAt k 0 a.cells := fun j v hv => cellOf h.blkA (0 + j) (by simpa using hv)
theorem SKK.rB {k : Nat} {a b : Cnd} {w W : World} (h : SKK k a b w W) : W.rangeAt (k + 1) 0 b.cells := fun j v hv => cellOf h.blkB (0 + j) (by simpa using hv)
/-- which of two is taken, and at which step -/
def cmpP (a b : Cnd) : Int × Int := agF a.key b.key (a.near == b.near) 8 0
set_option maxHeartbeats 2000000 in
theorem pcompare_any (a b : Cnd) (w : World) (ha : a.at w) (hb : b.at w) (hna : a.pl ≤ 1000000) (hnb : b.pl ≤ 1000000) :
    Calls Try.prog 12 #[a.val, b.val] w fun e w' => e = .returned (.tuple #[.int .i64 (cmpP a b).1, .int .i64 (cmpP a b).2]) ∧ Below w.heap.size w w' := by
  obtain ⟨R, hR⟩ : ∃ R, R = cmpP a b := ⟨_, rfl⟩
  rw [← hR]
  have HR := hidp hR
  have h0 : SKK w.heap.size a b w ((w.alloc (.cells a.cells.toArray 34)).alloc (.cells b.cells.toArray 34)) :=
    ⟨heap_alloc_at (heap_alloc_new w _) _, heap_alloc_top _ _ _ (by simp), ((Below.refl w.heap.size w).alloc (Nat.le_refl _) _).alloc (by simp) _⟩
  have H0 := hidp h0
  clear h0 hR
  unfold Cnd.val
  go_enter Try.func12, Try.ntmps12
  go_upto_region 1 with (fail)
  have h0 := H0.out
  generalize (w.alloc (.cells a.cells.toArray 34)).alloc (.cells b.cells.toArray 34) = W0 at *
  have hd : SKK w.heap.size a b w W0.drew := ⟨h0.blkA, h0.blkB, h0.bel.drew⟩
  refine wp_region_flow2 (fun iqv => ([(a.val : Value), (.agg a.keys.toArray : Value), (b.val : Value), (.agg b.keys.toArray : Value), (.pointer (some ⟨w.heap.size, 2, none⟩) : Value), (.int .u32 a.near : Value), (.pointer (some ⟨w.heap.size + 1, 2, none⟩) : Value), (.int .u32 b.near : Value), (.bool (a.near == b.near) : Value), (.tuple #[.int .i64 R.1, .int .i64 R.2] : Value), (.int .i64 R.1 : Value), (.int .i64 R.2 : Value), (.int .i64 R.1 : Value), (.int .i64 R.2 : Value)] : List Value).getD iqv undef) [(some 6, a.val), (some 7, .agg a.keys.toArray), (some 8, b.val), (some 9, .agg b.keys.toArray), (some 10, .pointer (some ⟨w.heap.size, 2, none⟩)), (some 11, .int .u32 a.near), (some 12, .pointer (some ⟨w.heap.size + 1, 2, none⟩)), (some 13, .int .u32 b.near), (some 14, .bool (a.near == b.near)), (some 15, .tuple #[.int .i64 R.1, .int .i64 R.2]), (some 16, .int .i64 R.1), (some 17, .int .i64 R.2), (some 4, .int .i64 R.1), (some 5, .int .i64 R.2)] (fun W : World => SKK w.heap.size a b w W) (by kernel_rfl) (by kernel_rfl) hd (fun iq hiq => ?_) (by kernel_rfl) (fun W hSW => ?_)
  · match iq, hiq with
    | 0, _ =>
      intro aq W hSW hf
      have v2 := hf.at_base 2 (by kernel_rfl)
      simp only [List.getElem?_toArray, List.getElem?_cons_succ, List.getElem?_cons_zero] at v2
      clear hf
      refine wpOp_flow rfl (by rfl) (fun Kq hK => ?_)
      refine wp_load_mid 34 (.tmp 2) rfl w.heap.size 0 (eval_of v2) a.cells _ hSW.rA Try.underlying34 rfl (by rw [Cnd.len]; exact Try.info34) (hK _ _ ⟨rfl, hSW⟩)
    | 1, _ =>
      intro aq W hSW hf
      have v6 : aq.tmps[6]? = some (a.val) := hf.val 0 6 (by kernel_rfl) rfl
      clear hf
      refine wpOp_flow rfl (by rfl) (fun Kq hK => ?_)
      go_simp
      refine (keyed_any a _ (ha.below hSW.bel) hna).mono ?_
      rintro e w1 ⟨rfl, B1⟩
      exact hK _ _ ⟨rfl, hSW.below B1⟩
    | 2, _ =>
      intro aq W hSW hf
      have v3 := hf.at_base 3 (by kernel_rfl)
      simp only [List.getElem?_toArray, List.getElem?_cons_succ, List.getElem?_cons_zero] at v3
      clear hf
      refine wpOp_flow rfl (by rfl) (fun Kq hK => ?_)
      refine wp_load_mid 34 (.tmp 3) rfl (w.heap.size + 1) 0 (eval_of v3) b.cells _ hSW.rB Try.underlying34 rfl (by rw [Cnd.len]; exact Try.info34) (hK _ _ ⟨rfl, hSW⟩)
    | 3, _ =>
      intro aq W hSW hf
      have v8 : aq.tmps[8]? = some (b.val) := hf.val 2 8 (by kernel_rfl) rfl
      clear hf
      refine wpOp_flow rfl (by rfl) (fun Kq hK => ?_)
      go_simp
      refine (keyed_any b _ (hb.below hSW.bel) hnb).mono ?_
      rintro e w1 ⟨rfl, B1⟩
      exact hK _ _ ⟨rfl, hSW.below B1⟩
    | 4, _ =>
      intro aq W hSW hf
      have v2 := hf.at_base 2 (by kernel_rfl)
      simp only [List.getElem?_toArray, List.getElem?_cons_succ, List.getElem?_cons_zero] at v2
      clear hf
      refine wpOp_flow rfl (by rfl) (fun Kq hK => ?_)
      go_simp
      exact hK _ _ ⟨rfl, hSW⟩
    | 5, _ =>
      intro aq W hSW hf
      have v10 : aq.tmps[10]? = some (.pointer (some ⟨w.heap.size, 2, none⟩)) := hf.val 4 10 (by kernel_rfl) rfl
      clear hf
      refine wpOp_flow rfl (by rfl) (fun Kq hK => ?_)
      have c2 := cellOf hSW.blkA 2 (v := .int .u32 a.near) rfl
      go_simp
      exact hK _ _ ⟨rfl, hSW⟩
    | 6, _ =>
      intro aq W hSW hf
      have v3 := hf.at_base 3 (by kernel_rfl)
      simp only [List.getElem?_toArray, List.getElem?_cons_succ, List.getElem?_cons_zero] at v3
      clear hf
      refine wpOp_flow rfl (by rfl) (fun Kq hK => ?_)
      go_simp
      exact hK _ _ ⟨rfl, hSW⟩
    | 7, _ =>
      intro aq W hSW hf
      have v12 : aq.tmps[12]? = some (.pointer (some ⟨w.heap.size + 1, 2, none⟩)) := hf.val 6 12 (by kernel_rfl) rfl
      clear hf
      refine wpOp_flow rfl (by rfl) (fun Kq hK => ?_)
      have c2 := cellOf hSW.blkB 2 (v := .int .u32 b.near) rfl
      go_simp
      exact hK _ _ ⟨rfl, hSW⟩
    | 8, _ =>
      intro aq W hSW hf
      have v11 : aq.tmps[11]? = some (.int .u32 a.near) := hf.val 5 11 (by kernel_rfl) rfl
      have v13 : aq.tmps[13]? = some (.int .u32 b.near) := hf.val 7 13 (by kernel_rfl) rfl
      clear hf
      refine wpOp_flow rfl (by rfl) (fun Kq hK => ?_)
      go_simp
      exact hK _ _ ⟨rfl, hSW⟩
    | 9, _ =>
      intro aq W hSW hf
      have v7 : aq.tmps[7]? = some (.agg a.keys.toArray) := hf.val 1 7 (by kernel_rfl) rfl
      have v9 : aq.tmps[9]? = some (.agg b.keys.toArray) := hf.val 3 9 (by kernel_rfl) rfl
      have v14 : aq.tmps[14]? = some (.bool (a.near == b.near)) := hf.val 8 14 (by kernel_rfl) rfl
      clear hf
      refine wpOp_flow rfl (by rfl) (fun Kq hK => ?_)
      go_simp
      refine (against_any a.key b.key (a.near == b.near) _).mono ?_
      rw [show agF a.key b.key (a.near == b.near) 8 0 = R from HR.out.symm]
      rintro e w1 ⟨rfl, B1⟩
      exact hK _ _ ⟨rfl, hSW.below B1⟩
    | 10, _ =>
      intro aq W hSW hf
      have v15 : aq.tmps[15]? = some (.tuple #[.int .i64 R.1, .int .i64 R.2]) := hf.val 9 15 (by kernel_rfl) rfl
      clear hf
      refine wpOp_flow rfl (by rfl) (fun Kq hK => ?_)
      go_simp
      exact hK _ _ ⟨rfl, hSW⟩
    | 11, _ =>
      intro aq W hSW hf
      have v15 : aq.tmps[15]? = some (.tuple #[.int .i64 R.1, .int .i64 R.2]) := hf.val 9 15 (by kernel_rfl) rfl
      clear hf
      refine wpOp_flow rfl (by rfl) (fun Kq hK => ?_)
      go_simp
      exact hK _ _ ⟨rfl, hSW⟩
    | 12, _ =>
      intro aq W hSW hf
      have v16 : aq.tmps[16]? = some (.int .i64 R.1) := hf.val 10 16 (by kernel_rfl) rfl
      clear hf
      refine wpOp_flow rfl (by rfl) (fun Kq hK => ?_)
      go_simp
      exact hK _ _ ⟨rfl, hSW⟩
    | 13, _ =>
      intro aq W hSW hf
      have v17 : aq.tmps[17]? = some (.int .i64 R.2) := hf.val 11 17 (by kernel_rfl) rfl
      clear hf
      refine wpOp_flow rfl (by rfl) (fun Kq hK => ?_)
      go_simp
      exact hK _ _ ⟨rfl, hSW⟩
    | kq + 14, hk => exact absurd hk (by first | omega | (intro h; simp at h; omega))
  · simp only [puts, Act.put, List.setIfInBounds_toArray, List.set_cons_zero, List.set_cons_succ]
    have hb := hSW.bel
    clear hSW HR
    go_wp2
    go_ret2
    exact ⟨rfl, hb⟩
end Go.Proofs.Ythfchjcbkmabpaa
