/- same: two lists of cursors, of the program and of the document. -/
import Derived.Test.YtkmhdffkganhaaaCD
import Derived.Test.YtkmhdffkganhaaaFlow
namespace Go.Proofs.Ytkmhdffkganhaaa
open Go.RowKit

theorem Try.info53c (c : Cur) : (Try.prog.info? 53).map (·.size) = some c.cells.length := Try.info53
/-- the document's cursor beside the program's: its list lies elsewhere, and holds the same -/
def Twin (w : World) (c d : Cur) : Prop := ∃ (a : Option Addr) (cc : Nat) (ys : List Int), d = c.withC a cc ∧ SrcV w c.ca c.cl (U32s ys) ∧ SrcV w a c.cl (U32s ys) ∧ c.cl ≤ 1000
theorem Twin.below {w w' : World} {c d : Cur} (h : Twin w c d) (hB : Below w.heap.size w w') : Twin w' c d := by
  obtain ⟨a, cc, ys, e, h1, h2, h3⟩ := h
  exact ⟨a, cc, ys, e, h1.below hB, h2.below hB, h3⟩
theorem csame_twin (c d : Cur) (w : World) (h : Twin w c d) : Calls Try.prog 22 #[c.val, d.val] w fun e w' => e = .returned (.bool true) ∧ Below w.heap.size w w' := by
  obtain ⟨a, cc, ys, rfl, h1, h2, h3⟩ := h
  exact csame_yes c c.ca a c.cc cc ys w h1 h2 h3

set_option maxRecDepth 100000 in
set_option maxHeartbeats 4000000 in
theorem same_any (a1 a2 : Option Addr) (n c1 c2 : Nat) (L M : List Cur) (w : World) (hL : L.length = n) (hM : M.length = n) (h1 : RowC w a1 L) (h2 : RowC w a2 M) (hT : ∀ i (h : i < L.length) (h' : i < M.length), Twin w L[i] M[i]) (hn : n ≤ 1000) :
    Calls Try.prog 20 #[.slice a1 n c1, .slice a2 n c2] w fun e w' => e = .returned (.bool true) ∧ Below w.heap.size w w' := by
  have H1 := hidp h1
  have H2 := hidp h2
  have HT := hidp hT
  have HL := hidp (And.intro hL hM)
  clear h1 h2 hT hL hM
  go_enter Try.func20, Try.ntmps20
  go_wp2
  go_loopw [5] (fun i wr => ∃ j : Nat, j ≤ n ∧ i = .int .i64 j ∧ Below w.heap.size w wr) (fun i _ => n - (intOf i).toNat)
  case atStart => exact ⟨0, by omega, rfl, Below.refl _ _⟩
  case round =>
    obtain ⟨j, hj, rfl, hB⟩ := hrel
    obtain ⟨w1, rfl⟩ : ∃ w1, w1 = wr := ⟨_, rfl⟩
    by_cases hlt : j < n
    · have hjl : j < L.length := by rw [HL.out.1]; exact hlt
      have hjm : j < M.length := by rw [HL.out.2]; exact hlt
      obtain ⟨g1, o1, rfl, r1⟩ := H1.out (by omega)
      obtain ⟨g2, o2, rfl, r2⟩ := H2.out (by omega)
      have q1 : ∀ W, Below w.heap.size w W → W.rangeAt g1 (o1 + j * 16) L[j].cells := fun W hW k v hv => below_cell hW (Nat.le_refl _) _ _ (r1 j hjl k v hv)
      have q2 : ∀ W, Below w.heap.size w W → W.rangeAt g2 (o2 + j * 16) M[j].cells := fun W hW k v hv => below_cell hW (Nat.le_refl _) _ _ (r2 j hjm k v hv)
      have qt : ∀ W, Below w.heap.size w W → Twin W L[j] M[j] := fun W hW => (HT.out j hjl hjm).below hW
      generalize L[j] = x at *
      generalize M[j] = y at *
      have Q1 := hidp q1
      have Q2 := hidp q2
      have QT := hidp qt
      have l1 : (j : Int) < (n : Int) := by omega
      have hd : Below w.heap.size w w1.drew := hB.drew
      clear q1 q2 qt r1 r2 hB hjl hjm
      go_upto_region 6 with (fail)
      refine wp_region_flow2 (fun iqv => ([(.slice (some ⟨g1, o1, none⟩) n c1 : Value), (.int .i64 (j : Int) : Value), (.pointer (some ⟨g1, o1 + j * 16, none⟩) : Value), (x.val : Value), (x.val : Value), (.slice (some ⟨g2, o2, none⟩) n c2 : Value), (.int .i64 (j : Int) : Value), (.pointer (some ⟨g2, o2 + j * 16, none⟩) : Value), (y.val : Value), (.bool true : Value), (.bool false : Value)] : List Value).getD iqv undef) [(some 17, .slice (some ⟨g1, o1, none⟩) n c1), (some 18, .int .i64 (j : Int)), (some 19, .pointer (some ⟨g1, o1 + j * 16, none⟩)), (some 20, x.val), (some 21, x.val), (some 22, .slice (some ⟨g2, o2, none⟩) n c2), (some 23, .int .i64 (j : Int)), (some 24, .pointer (some ⟨g2, o2 + j * 16, none⟩)), (some 25, y.val), (some 26, .bool true), (some 27, .bool false)] (fun W : World => Below w.heap.size w W) (by kernel_rfl) (by kernel_rfl) hd (fun iq hiq => ?_) (by kernel_rfl) (fun W hSW => ?_)
      · match iq, hiq with
        | 0, _ =>
          intro aq W hSW hf
          have v0 : aq.tmps[0]? = some (.slice (some ⟨g1, o1, none⟩) n c1) := (hf.at_base 0 (by kernel_rfl)).trans rfl
          clear hf
          refine wpOp_flow rfl (by rfl) (fun Kq hK => ?_)
          go_simp
          exact hK _ _ ⟨rfl, hSW⟩
        | 1, _ =>
          intro aq W hSW hf
          have v5 : aq.tmps[5]? = some (.int .i64 (j : Int)) := (hf.at_base 5 (by kernel_rfl)).trans rfl
          clear hf
          refine wpOp_flow rfl (by rfl) (fun Kq hK => ?_)
          go_simp
          exact hK _ _ ⟨rfl, hSW⟩
        | 2, _ =>
          intro aq W hSW hf
          have v17 : aq.tmps[17]? = some (.slice (some ⟨g1, o1, none⟩) n c1) := hf.val 0 17 (by kernel_rfl) rfl
          have v18 : aq.tmps[18]? = some (.int .i64 (j : Int)) := hf.val 1 18 (by kernel_rfl) rfl
          clear hf
          refine wpOp_flow rfl (by rfl) (fun Kq hK => ?_)
          go_simp
          exact hK _ _ ⟨rfl, hSW⟩
        | 3, _ =>
          intro aq W hSW hf
          have v19 : aq.tmps[19]? = some (.pointer (some ⟨g1, o1 + j * 16, none⟩)) := hf.val 2 19 (by kernel_rfl) rfl
          clear hf
          refine wpOp_flow rfl (by rfl) (fun Kq hK => ?_)
          refine wp_load_mid 34 (.tmp 19) rfl g1 (o1 + j * 16) (eval_of v19) x.cells _ (Q1.out W hSW) Try.underlying34 rfl (by rw [Cur.len]; exact Try.info34) (hK _ _ ⟨rfl, hSW⟩)
        | 4, _ =>
          intro aq W hSW hf
          have v20 : aq.tmps[20]? = some (x.val) := hf.val 3 20 (by kernel_rfl) rfl
          clear hf
          refine wpOp_flow rfl (by rfl) (fun Kq hK => ?_)
          go_simp
          refine (told_any x _).mono ?_
          rintro e w9 ⟨rfl, B9⟩
          exact hK _ _ ⟨rfl, hSW.trans (B9.mono hSW.size)⟩
        | 5, _ =>
          intro aq W hSW hf
          have v1 : aq.tmps[1]? = some (.slice (some ⟨g2, o2, none⟩) n c2) := (hf.at_base 1 (by kernel_rfl)).trans rfl
          clear hf
          refine wpOp_flow rfl (by rfl) (fun Kq hK => ?_)
          go_simp
          exact hK _ _ ⟨rfl, hSW⟩
        | 6, _ =>
          intro aq W hSW hf
          have v5 : aq.tmps[5]? = some (.int .i64 (j : Int)) := (hf.at_base 5 (by kernel_rfl)).trans rfl
          clear hf
          refine wpOp_flow rfl (by rfl) (fun Kq hK => ?_)
          go_simp
          exact hK _ _ ⟨rfl, hSW⟩
        | 7, _ =>
          intro aq W hSW hf
          have v22 : aq.tmps[22]? = some (.slice (some ⟨g2, o2, none⟩) n c2) := hf.val 5 22 (by kernel_rfl) rfl
          have v23 : aq.tmps[23]? = some (.int .i64 (j : Int)) := hf.val 6 23 (by kernel_rfl) rfl
          clear hf
          refine wpOp_flow rfl (by rfl) (fun Kq hK => ?_)
          go_simp
          exact hK _ _ ⟨rfl, hSW⟩
        | 8, _ =>
          intro aq W hSW hf
          have v24 : aq.tmps[24]? = some (.pointer (some ⟨g2, o2 + j * 16, none⟩)) := hf.val 7 24 (by kernel_rfl) rfl
          clear hf
          refine wpOp_flow rfl (by rfl) (fun Kq hK => ?_)
          refine wp_load_mid 53 (.tmp 24) rfl g2 (o2 + j * 16) (eval_of v24) y.cells _ (Q2.out W hSW) Try.underlying53 rfl (Try.info53c y) (hK _ _ ⟨rfl, hSW⟩)
        | 9, _ =>
          intro aq W hSW hf
          have v21 : aq.tmps[21]? = some (x.val) := hf.val 4 21 (by kernel_rfl) rfl
          have v25 : aq.tmps[25]? = some (y.val) := hf.val 8 25 (by kernel_rfl) rfl
          clear hf
          refine wpOp_flow rfl (by rfl) (fun Kq hK => ?_)
          go_simp
          refine (csame_twin x y _ (QT.out W hSW)).mono ?_
          rintro e w9 ⟨rfl, B9⟩
          exact hK _ _ ⟨rfl, hSW.trans (B9.mono hSW.size)⟩
        | 10, _ =>
          intro aq W hSW hf
          have v26 : aq.tmps[26]? = some (.bool true) := hf.val 9 26 (by kernel_rfl) rfl
          clear hf
          refine wpOp_flow rfl (by rfl) (fun Kq hK => ?_)
          go_simp
          exact hK _ _ ⟨rfl, hSW⟩
        | kq + 11, hk => exact absurd hk (by first | omega | (intro h; simp at h; omega))
      · simp only [puts, Act.put, List.setIfInBounds_toArray, List.set_cons_zero, List.set_cons_succ]
        have HB := hidp hSW
        clear hSW
        go_wp2
        go_roundw
        case rel => exact ⟨j + 1, by omega, by go_num, HB.out⟩
        case measure => simp [intOf]; omega
    · have l1 : ¬ (j : Int) < (n : Int) := by omega
      go_wp2
      go_ret
      exact ⟨rfl, hB⟩
end Go.Proofs.Ytkmhdffkganhaaa
