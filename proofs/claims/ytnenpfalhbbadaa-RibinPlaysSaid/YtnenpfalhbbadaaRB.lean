/- The document's words on prefixes and lists of routes: Right; Drop, Get of an empty list. -/
import Derived.Test.YtnenpfalhbbadaaRA
import Derived.Test.YtnenpfalhbbadaaPT
import Derived.Test.YtnenpfalhbbadaaFlowG
namespace Go.Proofs.Ytnenpfalhbbadaa
open Go.RowKit

set_option maxRecDepth 100000 in
set_option maxHeartbeats 2000000 in
theorem right2_any (p : Pf) (hp : p.ok) (w : World) : Calls Try.prog 33 #[p.val] w fun e w' => e = .returned (.bool (rightF p)) ∧ Below w.heap.size w w' := by
  have hB := (Below.refl w.heap.size w).alloc (Nat.le_refl _) (.cells #[.int .u32 (p.a : Int), .int .i64 p.l] 44)
  have k0 := heap_alloc_new w (.cells #[.int .u32 (p.a : Int), .int .i64 p.l] 44)
  have HB := hidp hB
  have K0 := hidp k0
  have hr := norm2_right p hp
  have HN := hidp (fun W => norm2_any p.a hp p.l W)
  obtain ⟨⟨x, y⟩, hq⟩ : ∃ q, norm2 p.a p.l = q := ⟨_, rfl⟩
  rw [hq] at hr HN
  have hE : ∀ w, (Op.equalIn 10000 44 (.agg #[.int .u32 (x : Int), .int .i64 y]) (.agg #[.int .u32 (p.a : Int), .int .i64 p.l])).run Try.prog w = .ok (rightF p) w := fun w => by
    rw [eq44, ← hr]
    congr 1
    by_cases h : (⟨x, y⟩ : Pf) = p
    · subst h; simp
    · have : ¬ (x = p.a ∧ y = p.l) := fun ⟨h1, h2⟩ => h (by cases p; simp_all)
      simp [h]
      intro h1
      by_cases h2 : y = p.l
      · exact absurd ⟨by omega, h2⟩ this
      · exact h2
  have HE := hidp hE
  have hqv : (⟨x, y⟩ : Pf).val = .agg #[.int .u32 (x : Int), .int .i64 y] := rfl
  have hpv : p.val = .agg #[.int .u32 (p.a : Int), .int .i64 p.l] := rfl
  rw [hqv] at HN
  rw [hpv]
  clear hB k0 hr hq hqv hpv hE
  go_enter Try.func33, Try.ntmps33
  go_upto_region 1 with (fail)
  change Code.wp Try.prog _ _ _ (w.alloc (.cells #[.int .u32 (p.a : Int), .int .i64 p.l] 44))
  generalize w.alloc (.cells #[.int .u32 (p.a : Int), .int .i64 p.l] 44) = w1 at *
  refine wp_region_flow2 (fun iqv => ([(.pointer (some ⟨w.heap.size, 0, none⟩) : Value), (.int .u32 (p.a : Int) : Value), (.pointer (some ⟨w.heap.size, 1, none⟩) : Value), (.int .i64 p.l : Value), (.agg #[.int .u32 (x : Int), .int .i64 y] : Value), (.agg #[.int .u32 (p.a : Int), .int .i64 p.l] : Value), (.bool (rightF p) : Value), (.bool (rightF p) : Value)] : List Value).getD iqv undef) [(some 3, .pointer (some ⟨w.heap.size, 0, none⟩)), (some 4, .int .u32 (p.a : Int)), (some 5, .pointer (some ⟨w.heap.size, 1, none⟩)), (some 6, .int .i64 p.l), (some 7, .agg #[.int .u32 (x : Int), .int .i64 y]), (some 8, .agg #[.int .u32 (p.a : Int), .int .i64 p.l]), (some 9, .bool (rightF p)), (some 2, .bool (rightF p))] (fun W : World => Below w1.heap.size w1 W) (by kernel_rfl) (by kernel_rfl) ((Below.refl _ _).drew) (fun iq hiq => ?_) (by kernel_rfl) (fun W hSW => ?_)
  · match iq, hiq with
    | 0, _ =>
      intro aq W hSW hf
      have v1 : aq.tmps[1]? = some (.pointer (some ⟨w.heap.size, 0, none⟩)) := (hf.at_base 1 (by kernel_rfl)).trans rfl
      clear hf
      refine wpOp_flow rfl (by rfl) (fun Kq hK => ?_)
      go_simp
      exact hK _ _ ⟨rfl, hSW⟩
    | 1, _ =>
      intro aq W hSW hf
      have v3 : aq.tmps[3]? = some (.pointer (some ⟨w.heap.size, 0, none⟩)) := hf.val 0 3 (by kernel_rfl) rfl
      clear hf
      refine wpOp_flow rfl (by rfl) (fun Kq hK => ?_)
      have k := heap_below hSW K0.out (ltOf K0.out)
      have d0 := cellOf k 0 (v := .int .u32 (p.a : Int)) rfl
      go_simp
      exact hK _ _ ⟨rfl, hSW⟩
    | 2, _ =>
      intro aq W hSW hf
      have v1 : aq.tmps[1]? = some (.pointer (some ⟨w.heap.size, 0, none⟩)) := (hf.at_base 1 (by kernel_rfl)).trans rfl
      clear hf
      refine wpOp_flow rfl (by rfl) (fun Kq hK => ?_)
      go_simp
      exact hK _ _ ⟨rfl, hSW⟩
    | 3, _ =>
      intro aq W hSW hf
      have v5 : aq.tmps[5]? = some (.pointer (some ⟨w.heap.size, 1, none⟩)) := hf.val 2 5 (by kernel_rfl) rfl
      clear hf
      refine wpOp_flow rfl (by rfl) (fun Kq hK => ?_)
      have k := heap_below hSW K0.out (ltOf K0.out)
      have d1 := cellOf k 1 (v := .int .i64 p.l) rfl
      go_simp
      exact hK _ _ ⟨rfl, hSW⟩
    | 4, _ =>
      intro aq W hSW hf
      have v4 : aq.tmps[4]? = some (.int .u32 (p.a : Int)) := hf.val 1 4 (by kernel_rfl) rfl
      have v6 : aq.tmps[6]? = some (.int .i64 p.l) := hf.val 3 6 (by kernel_rfl) rfl
      clear hf
      refine wpOp_flow rfl (by rfl) (fun Kq hK => ?_)
      go_simp
      refine (HN.out _).mono ?_
      rintro e w19 ⟨rfl, B19⟩
      exact hK _ _ ⟨rfl, hSW.trans (B19.mono hSW.size)⟩
    | 5, _ =>
      intro aq W hSW hf
      have v1 : aq.tmps[1]? = some (.pointer (some ⟨w.heap.size, 0, none⟩)) := (hf.at_base 1 (by kernel_rfl)).trans rfl
      clear hf
      refine wpOp_flow rfl (by rfl) (fun Kq hK => ?_)
      have k := heap_below hSW K0.out (ltOf K0.out)
      have d0 := cellOf k 0 (v := .int .u32 (p.a : Int)) rfl
      have d1 := cellOf k 1 (v := .int .i64 p.l) rfl
      go_simp
      exact hK _ _ ⟨rfl, hSW⟩
    | 6, _ =>
      intro aq W hSW hf
      have v7 : aq.tmps[7]? = some (.agg #[.int .u32 (x : Int), .int .i64 y]) := hf.val 4 7 (by kernel_rfl) rfl
      have v8 : aq.tmps[8]? = some (.agg #[.int .u32 (p.a : Int), .int .i64 p.l]) := hf.val 5 8 (by kernel_rfl) rfl
      clear hf
      refine wpOp_flow rfl (by rfl) (fun Kq hK => ?_)
      have heq := HE.out
      go_simp
      exact hK _ _ ⟨rfl, hSW⟩
    | 7, _ =>
      intro aq W hSW hf
      have v9 : aq.tmps[9]? = some (.bool (rightF p)) := hf.val 6 9 (by kernel_rfl) rfl
      clear hf
      refine wpOp_flow rfl (by rfl) (fun Kq hK => ?_)
      go_simp
      exact hK _ _ ⟨rfl, hSW⟩
    | kq + 8, hk => exact absurd hk (by first | omega | (intro h; simp at h; omega))
  · simp only [puts, Act.put, List.setIfInBounds_toArray, List.set_cons_zero, List.set_cons_succ]
    have HB2 := hidp (HB.out.trans (hSW.mono HB.out.size))
    clear hSW
    go_wp2
    go_ret
    exact ⟨rfl, HB2.out⟩
set_option maxHeartbeats 1000000 in
theorem drop_nil (a : Option Addr) (c : Nat) (p : Pf) (w : World) : Calls Try.prog 31 #[.slice a 0 c, p.val] w fun e w' => e = .returned (.slice none 0 0) ∧ Below w.heap.size w w' := by
  have hpv : p.val = .agg #[.int .u32 (p.a : Int), .int .i64 p.l] := rfl
  rw [hpv]
  have HB := hidp ((Below.refl w.heap.size w).alloc (Nat.le_refl _) (.cells #[.int .u32 (p.a : Int), .int .i64 p.l] 44))
  go_enter Try.func31, Try.ntmps31
  go_wp2
  change Code.wp Try.prog _ _ _ (w.alloc (.cells #[.int .u32 (p.a : Int), .int .i64 p.l] 44))
  generalize w.alloc (.cells #[.int .u32 (p.a : Int), .int .i64 p.l] 44) = w1 at *
  go_loopw [5, 6] (fun x i wr => x = .slice none 0 0 ∧ i = .int .i64 0 ∧ wr = w1) (fun _ _ _ => 0)
  case atStart => exact ⟨rfl, rfl, rfl⟩
  case round =>
    obtain ⟨rfl, rfl, rfl⟩ := hrel
    go_wp2
    go_ret
    exact ⟨rfl, HB.out⟩
set_option maxHeartbeats 1000000 in
theorem get_nil (a : Option Addr) (c : Nat) (p : Pf) (w : World) : Calls Try.prog 32 #[.slice a 0 c, p.val] w fun e w' => e = .returned (.tuple #[att0.val, .bool false]) ∧ Below w.heap.size w w' := by
  have hpv : p.val = .agg #[.int .u32 (p.a : Int), .int .i64 p.l] := rfl
  have hav : att0.val = .agg att0.cells.toArray := rfl
  have hi0 : Hid ((Try.prog.info? 37).map (·.size) = some att0.cells.toArray.size) := Try.info37
  rw [hpv, hav]
  have hB := ((Below.refl w.heap.size w).alloc (Nat.le_refl _) (.cells #[.int .u32 (p.a : Int), .int .i64 p.l] 44)).alloc (by simp) (.cells att0.cells.toArray 37)
  have k1 : ((w.alloc (.cells #[.int .u32 (p.a : Int), .int .i64 p.l] 44)).alloc (.cells att0.cells.toArray 37)).heap[w.heap.size + 1]? = some (.cells att0.cells.toArray 37 (0, 0)) := heap_alloc_top _ _ _ (by simp)
  have HB := hidp hB
  have K1 := hidp k1
  clear hB k1
  go_enter Try.func32, Try.ntmps32
  go_wp2
  change Code.wp Try.prog _ _ _ ((w.alloc (.cells #[.int .u32 (p.a : Int), .int .i64 p.l] 44)).alloc (.cells att0.cells.toArray 37))
  generalize (w.alloc (.cells #[.int .u32 (p.a : Int), .int .i64 p.l] 44)).alloc (.cells att0.cells.toArray 37) = w1 at *
  go_loopw [6] (fun i wr => i = .int .i64 0 ∧ wr = w1) (fun _ _ => 0)
  case atStart => exact ⟨rfl, rfl⟩
  case round =>
    obtain ⟨rfl, rfl⟩ := hrel
    go_wp2_with (refine wpList_store_row rfl 37 (.tmp 4) (.tmp 25) rfl (w.heap.size + 1) att0.cells.toArray rfl rfl 37 _ K1.out hi0.out rfl att0.all_one ?_)
    refine bodyPost_ret (results_att rfl _ _ (w.heap.size + 1) att0.cells.toArray rfl rfl (setRow_heap _ _ _ _ _ _ K1.out)) rfl ?_
    exact ⟨rfl, below_setRow HB.out _ (by omega) _⟩
end Go.Proofs.Ytnenpfalhbbadaa
