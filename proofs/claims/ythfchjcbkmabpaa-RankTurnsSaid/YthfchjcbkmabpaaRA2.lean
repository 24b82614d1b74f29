/- Of two places the one that is taken: the program's better. -/
import Derived.Test.YthfchjcbkmabpaaRA
namespace Go.Proofs.Ythfchjcbkmabpaa
open Go.RowKit

theorem keyl_len (x : Nat → Int) : (keyl x).length = 8 := rfl
theorem ret_i {a b : Nat} (h : a = b) : Ending.returned (.int .i64 (a : Int)) = .returned (.int .i64 (b : Int)) := by rw [h]
set_option maxHeartbeats 2000000 in
theorem better_any (g o n cap : Nat) (K : Nat → Nat → Int) (i k : Nat) (med : Bool) (w : World) (hi : i < n) (hk : k < n)
    (ci : w.rangeAt g (o + i * 8) (keyl (K i))) (ck : w.rangeAt g (o + k * 8) (keyl (K k))) :
    Calls Try.prog 26 #[.slice (some ⟨g, o, none⟩) n cap, .int .i64 i, .int .i64 k, .bool med] w fun e w' => e = .returned (.int .i64 (bet K med i k : Nat)) ∧ Below w.heap.size w w' := by
  have HI := hidp ci
  have HK := hidp ck
  obtain ⟨R, hR⟩ : ∃ R, R = agF (K i) (K k) med 8 0 := ⟨_, rfl⟩
  have HR := hidp hR
  have hb := ag_bet K med i k
  rw [← hR] at hb
  have HBT := hidp hb
  clear ci ck hR hb
  have l1 : (i : Int) < n := by omega
  have l2 : (k : Int) < n := by omega
  have hrI : ∀ W : World, Below w.heap.size w W → W.rangeAt g (o + i * 8) (keyl (K i)) := fun W hW j v hv => below_cell hW (Nat.le_refl _) _ _ (HI.out j v hv)
  have hrK : ∀ W : World, Below w.heap.size w W → W.rangeAt g (o + k * 8) (keyl (K k)) := fun W hW j v hv => below_cell hW (Nat.le_refl _) _ _ (HK.out j v hv)
  have HRI := hidp hrI
  have HRK := hidp hrK
  clear hrI hrK
  go_enter Try.func26, Try.ntmps26
  go_upto_region 1 with (fail)
  refine wp_region_flow2 (fun iqv => ([(.slice (some ⟨g, o, none⟩) n cap : Value), (.int .i64 i : Value), (.pointer (some ⟨g, o + i * 8, none⟩) : Value), (keyv (K i) : Value), (.slice (some ⟨g, o, none⟩) n cap : Value), (.int .i64 k : Value), (.pointer (some ⟨g, o + k * 8, none⟩) : Value), (keyv (K k) : Value), (.bool med : Value), (.tuple #[.int .i64 R.1, .int .i64 R.2] : Value), (.tuple #[.int .i64 R.1, .int .i64 R.2] : Value), (.int .i64 R.1 : Value), (.int .i64 R.2 : Value), (.int .i64 R.1 : Value), (.int .i64 R.2 : Value)] : List Value).getD iqv undef) [(some 12, .slice (some ⟨g, o, none⟩) n cap), (some 13, .int .i64 i), (some 14, .pointer (some ⟨g, o + i * 8, none⟩)), (some 15, keyv (K i)), (some 16, .slice (some ⟨g, o, none⟩) n cap), (some 17, .int .i64 k), (some 18, .pointer (some ⟨g, o + k * 8, none⟩)), (some 19, keyv (K k)), (some 20, .bool med), (some 21, .tuple #[.int .i64 R.1, .int .i64 R.2]), (some 11, .tuple #[.int .i64 R.1, .int .i64 R.2]), (some 22, .int .i64 R.1), (some 23, .int .i64 R.2), (some 9, .int .i64 R.1), (some 10, .int .i64 R.2)] (fun W : World => Below w.heap.size w W) (by kernel_rfl) (by kernel_rfl) ((Below.refl _ _).drew) (fun iq hiq => ?_) (by kernel_rfl) (fun W hSW => ?_)
  · match iq, hiq with
    | 0, _ =>
      intro aq W hSW hf
      have v0 := hf.at_base 0 (by kernel_rfl)
      simp only [List.getElem?_toArray, List.getElem?_cons_zero] at v0
      clear hf
      refine wpOp_flow rfl (by rfl) (fun Kq hK => ?_)
      go_simp
      exact hK _ _ ⟨rfl, hSW⟩
    | 1, _ =>
      intro aq W hSW hf
      have v1 := hf.at_base 1 (by kernel_rfl)
      simp only [List.getElem?_toArray, List.getElem?_cons_succ, List.getElem?_cons_zero] at v1
      clear hf
      refine wpOp_flow rfl (by rfl) (fun Kq hK => ?_)
      go_simp
      exact hK _ _ ⟨rfl, hSW⟩
    | 2, _ =>
      intro aq W hSW hf
      have v12 : aq.tmps[12]? = some (.slice (some ⟨g, o, none⟩) n cap) := hf.val 0 12 (by kernel_rfl) rfl
      have v13 : aq.tmps[13]? = some (.int .i64 i) := hf.val 1 13 (by kernel_rfl) rfl
      clear hf
      refine wpOp_flow rfl (by rfl) (fun Kq hK => ?_)
      go_simp
      exact hK _ _ ⟨rfl, hSW⟩
    | 3, _ =>
      intro aq W hSW hf
      have v14 : aq.tmps[14]? = some (.pointer (some ⟨g, o + i * 8, none⟩)) := hf.val 2 14 (by kernel_rfl) rfl
      clear hf
      refine wpOp_flow rfl (by rfl) (fun Kq hK => ?_)
      refine wp_load_mid 49 (.tmp 14) rfl g (o + i * 8) (eval_of v14) (keyl (K i)) _ (HRI.out W hSW) Try.underlying49 rfl (by rw [keyl_len]; exact Try.info49) (hK _ _ ⟨rfl, hSW⟩)
    | 4, _ =>
      intro aq W hSW hf
      have v0 := hf.at_base 0 (by kernel_rfl)
      simp only [List.getElem?_toArray, List.getElem?_cons_zero] at v0
      clear hf
      refine wpOp_flow rfl (by rfl) (fun Kq hK => ?_)
      go_simp
      exact hK _ _ ⟨rfl, hSW⟩
    | 5, _ =>
      intro aq W hSW hf
      have v2 := hf.at_base 2 (by kernel_rfl)
      simp only [List.getElem?_toArray, List.getElem?_cons_succ, List.getElem?_cons_zero] at v2
      clear hf
      refine wpOp_flow rfl (by rfl) (fun Kq hK => ?_)
      go_simp
      exact hK _ _ ⟨rfl, hSW⟩
    | 6, _ =>
      intro aq W hSW hf
      have v16 : aq.tmps[16]? = some (.slice (some ⟨g, o, none⟩) n cap) := hf.val 4 16 (by kernel_rfl) rfl
      have v17 : aq.tmps[17]? = some (.int .i64 k) := hf.val 5 17 (by kernel_rfl) rfl
      clear hf
      refine wpOp_flow rfl (by rfl) (fun Kq hK => ?_)
      go_simp
      exact hK _ _ ⟨rfl, hSW⟩
    | 7, _ =>
      intro aq W hSW hf
      have v18 : aq.tmps[18]? = some (.pointer (some ⟨g, o + k * 8, none⟩)) := hf.val 6 18 (by kernel_rfl) rfl
      clear hf
      refine wpOp_flow rfl (by rfl) (fun Kq hK => ?_)
      refine wp_load_mid 49 (.tmp 18) rfl g (o + k * 8) (eval_of v18) (keyl (K k)) _ (HRK.out W hSW) Try.underlying49 rfl (by rw [keyl_len]; exact Try.info49) (hK _ _ ⟨rfl, hSW⟩)
    | 8, _ =>
      intro aq W hSW hf
      have v3 := hf.at_base 3 (by kernel_rfl)
      simp only [List.getElem?_toArray, List.getElem?_cons_succ, List.getElem?_cons_zero] at v3
      clear hf
      refine wpOp_flow rfl (by rfl) (fun Kq hK => ?_)
      go_simp
      exact hK _ _ ⟨rfl, hSW⟩
    | 9, _ =>
      intro aq W hSW hf
      have v15 : aq.tmps[15]? = some (keyv (K i)) := hf.val 3 15 (by kernel_rfl) rfl
      have v19 : aq.tmps[19]? = some (keyv (K k)) := hf.val 7 19 (by kernel_rfl) rfl
      have v20 : aq.tmps[20]? = some (.bool med) := hf.val 8 20 (by kernel_rfl) rfl
      clear hf
      refine wpOp_flow rfl (by rfl) (fun Kq hK => ?_)
      go_simp
      refine (against_any _ _ _ _).mono ?_
      rw [← HR.out]
      rintro e w1 ⟨rfl, B1⟩
      exact hK _ _ ⟨rfl, hSW.trans (B1.mono hSW.size)⟩
    | 10, _ =>
      intro aq W hSW hf
      have v21 : aq.tmps[21]? = some (.tuple #[.int .i64 R.1, .int .i64 R.2]) := hf.val 9 21 (by kernel_rfl) rfl
      clear hf
      refine wpOp_flow rfl (by rfl) (fun Kq hK => ?_)
      go_simp
      exact hK _ _ ⟨rfl, hSW⟩
    | 11, _ =>
      intro aq W hSW hf
      have v11 : aq.tmps[11]? = some (.tuple #[.int .i64 R.1, .int .i64 R.2]) := hf.val 10 11 (by kernel_rfl) rfl
      clear hf
      refine wpOp_flow rfl (by rfl) (fun Kq hK => ?_)
      go_simp
      exact hK _ _ ⟨rfl, hSW⟩
    | 12, _ =>
      intro aq W hSW hf
      have v11 : aq.tmps[11]? = some (.tuple #[.int .i64 R.1, .int .i64 R.2]) := hf.val 10 11 (by kernel_rfl) rfl
      clear hf
      refine wpOp_flow rfl (by rfl) (fun Kq hK => ?_)
      go_simp
      exact hK _ _ ⟨rfl, hSW⟩
    | 13, _ =>
      intro aq W hSW hf
      have v22 : aq.tmps[22]? = some (.int .i64 R.1) := hf.val 11 22 (by kernel_rfl) rfl
      clear hf
      refine wpOp_flow rfl (by rfl) (fun Kq hK => ?_)
      go_simp
      exact hK _ _ ⟨rfl, hSW⟩
    | 14, _ =>
      intro aq W hSW hf
      have v23 : aq.tmps[23]? = some (.int .i64 R.2) := hf.val 12 23 (by kernel_rfl) rfl
      clear hf
      refine wpOp_flow rfl (by rfl) (fun Kq hK => ?_)
      go_simp
      exact hK _ _ ⟨rfl, hSW⟩
    | kq + 15, hk => exact absurd hk (by first | omega | (intro h; simp at h; omega))
  · simp only [puts, Act.put, List.setIfInBounds_toArray, List.set_cons_zero, List.set_cons_succ]
    have hbt := HBT.out
    clear HR HRI HRK HI HK
    generalize R.2 = n2 at *
    generalize R.1 = n1 at *
    by_cases h1 : 0 < n1
    · rw [if_pos (.inl h1)] at hbt
      have HB2 := hidp hbt
      clear hbt
      go_wp2
      go_ret
      exact ⟨ret_i HB2.out, hSW⟩
    · by_cases h2 : n1 = 0
      · subst h2
        by_cases h3 : (k : Int) < i
        · rw [if_pos (.inr ⟨rfl, h3⟩)] at hbt
          have HB2 := hidp hbt
          clear hbt
          go_wp2
          go_ret
          exact ⟨ret_i HB2.out, hSW⟩
        · rw [if_neg (by omega)] at hbt
          have HB2 := hidp hbt
          clear hbt
          go_wp2
          go_ret
          exact ⟨ret_i HB2.out, hSW⟩
      · have h4 : (n1 == 0) = false := by simpa using h2
        rw [if_neg (by omega)] at hbt
        have HB2 := hidp hbt
        clear hbt h2
        go_wp2
        go_ret
        exact ⟨ret_i HB2.out, hSW⟩
end Go.Proofs.Ythfchjcbkmabpaa
