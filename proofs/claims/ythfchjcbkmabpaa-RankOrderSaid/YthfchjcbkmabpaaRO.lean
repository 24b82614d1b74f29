/- In which order candidates are taken: what one takes one by one, as plain data; the program's Order and the document's. -/
import Derived.Test.YthfchjcbkmabpaaRH
namespace Go.Proofs.Ythfchjcbkmabpaa
open Go.RowKit

section
variable (K : Nat → Nat → Int) (Nr : Nat → Int)
open Classical in
theorem win_exists {xs : List Nat} (h : xs ≠ []) : ∃ i, Win K Nr xs i := by
  obtain ⟨x, r, rfl⟩ := List.exists_cons_of_ne_nil h
  obtain ⟨g0, hg0, _, hb0⟩ := group_of K Nr (x :: r) x (by simp)
  obtain ⟨m, hm, hle⟩ := least_of (fun a b => lle (vK K false a) (vK K false b)) (fun a b c => lle_trans (vK_len K _ _ _) (vK_len K _ _ _)) (fun a b => lle_total _ _)
    ((x :: r).filter fun g => decide (∀ j ∈ x :: r, Nr j = Nr g → lle (vK K true g) (vK K true j))) (by
      intro hn
      have : g0 ∈ (x :: r).filter fun g => decide (∀ j ∈ x :: r, Nr j = Nr g → lle (vK K true g) (vK K true j)) := List.mem_filter.2 ⟨hg0, decide_eq_true hb0⟩
      rw [hn] at this
      simp at this)
  obtain ⟨hm1, hm2⟩ := List.mem_filter.1 hm
  exact ⟨m, hm1, of_decide_eq_true hm2, fun g hg hb => hle g (List.mem_filter.2 ⟨hg, decide_eq_true hb⟩)⟩
/-- the place that is taken of some -/
def pickP (xs : List Nat) : Nat := (amongP K Nr xs).toNat
theorem pick_win {xs : List Nat} (hs : xs.Pairwise (· < ·)) {i : Nat} (h : Win K Nr xs i) : pickP K Nr xs = i := by
  unfold pickP
  rw [among_win K Nr hs h]
  rfl
theorem pick_spec {xs : List Nat} (hs : xs.Pairwise (· < ·)) (h : xs ≠ []) : amongP K Nr xs = (pickP K Nr xs : Nat) ∧ pickP K Nr xs ∈ xs := by
  obtain ⟨i, hi⟩ := win_exists K Nr h
  rw [pick_win K Nr hs hi]
  exact ⟨among_win K Nr hs hi, hi.mem⟩
theorem best_pick {xs : List Nat} (hs : xs.Pairwise (· < ·)) (h : xs ≠ []) {r : Int} (hb : BestOf K Nr xs r) : r = (pickP K Nr xs : Nat) := by
  rw [← among_best K Nr hs hb]
  exact (pick_spec K Nr hs h).1
/-- what is left when k are taken -/
def restP (xs : List Nat) : Nat → List Nat
  | 0 => xs
  | k + 1 => (restP xs k).filter fun i => decide (i ≠ pickP K Nr (restP xs k))
/-- the first k that are taken -/
def outP (xs : List Nat) (k : Nat) : List Nat := (List.range k).map fun j => pickP K Nr (restP K Nr xs j)
theorem outP_succ (xs : List Nat) (k : Nat) : outP K Nr xs (k + 1) = outP K Nr xs k ++ [pickP K Nr (restP K Nr xs k)] := by
  simp [outP, List.range_succ]
theorem outP_len (xs : List Nat) (k : Nat) : (outP K Nr xs k).length = k := by simp [outP]
theorem rest_sub (xs : List Nat) : ∀ k, (restP K Nr xs k).Sublist xs
  | 0 => List.Sublist.refl _
  | k + 1 => List.filter_sublist.trans (rest_sub xs k)
theorem rest_len {xs : List Nat} (hs : xs.Pairwise (· < ·)) : ∀ k, k ≤ xs.length → (restP K Nr xs k).length = xs.length - k
  | 0, _ => rfl
  | k + 1, h => by
    have ih := rest_len hs k (by omega)
    have hsk := hs.sublist (rest_sub K Nr xs k)
    have hne : restP K Nr xs k ≠ [] := by
      intro h0
      rw [h0] at ih
      simp at ih
      omega
    have hmem := (pick_spec K Nr hsk hne).2
    have hnd : (restP K Nr xs k).Nodup := hsk.imp (fun h => Nat.ne_of_lt h)
    have he := hnd.erase_eq_filter (pickP K Nr (restP K Nr xs k))
    have hl := List.length_erase_of_mem hmem
    have hf : restP K Nr xs (k + 1) = (restP K Nr xs k).erase (pickP K Nr (restP K Nr xs k)) := by
      rw [he]
      show List.filter _ _ = _
      congr 1
      funext i
      by_cases h : i = pickP K Nr (restP K Nr xs k)
      · rw [decide_eq_false (by simpa using h)]; simp [h]
      · rw [decide_eq_true h]; simp [h]
    rw [hf, hl, ih]
    omega
end
/-- what one has to know of those that are left -/
structure RestOk (K : Nat → Nat → Int) (Nr : Nat → Int) (n k : Nat) (ys : List Nat) : Prop where
  sorted : ys.Pairwise (· < ·)
  below : ∀ i ∈ ys, i < n
  len : ys.length = n - k
  is : ys = restP K Nr (List.range n) k
theorem RestOk.of (K : Nat → Nat → Int) (Nr : Nat → Int) (n k : Nat) (h : k ≤ n) : RestOk K Nr n k (restP K Nr (List.range n) k) := by
  have hs : (List.range n).Pairwise (· < ·) := List.pairwise_lt_range
  refine ⟨hs.sublist (rest_sub K Nr _ k), fun i hi => List.mem_range.1 ((rest_sub K Nr _ k).subset hi), ?_, rfl⟩
  rw [rest_len K Nr hs k (by simpa using h), List.length_range]
def lenOf : Value → Nat
  | .slice _ n _ => n
  | _ => 0
theorem ownI_of_heap {w w' : World} {base : Nat} {v : Value} {xs : List Nat} (h : OwnI w base v xs) (hk : ∀ g, v.ownBlock = some g → w'.heap[g]? = w.heap[g]?) : OwnI w' base v xs := by
  obtain ⟨h1, h2 | ⟨g, cap, cur, hv, hg, hh, r⟩⟩ := h
  · exact ⟨h1, .inl h2⟩
  · exact ⟨h1, .inr ⟨g, cap, cur, hv, hg, by rw [hk g (by rw [hv]; rfl)]; exact hh, r⟩⟩
theorem OwnI.block {w : World} {base : Nat} {v : Value} {xs : List Nat} (h : OwnI w base v xs) : ∀ g, v.ownBlock = some g → base ≤ g ∧ g < w.heap.size := by
  obtain ⟨h1, ⟨hv, _⟩ | ⟨g, cap, cur, hv, hg, hh, r⟩⟩ := h
  · intro k hk; rw [hv] at hk; cases hk
  · intro k hk; rw [hv] at hk; cases hk; exact ⟨hg, ltOf hh⟩
theorem OwnI.less {w : World} {base b2 : Nat} {v : Value} {xs : List Nat} (h : OwnI w base v xs) (hb : b2 ≤ base) : OwnI w b2 v xs := by
  obtain ⟨h1, h2 | ⟨g, cap, cur, hv, hg, r⟩⟩ := h
  · exact ⟨h1, .inl h2⟩
  · exact ⟨h1, .inr ⟨g, cap, cur, hv, by omega, r⟩⟩
/-- 'append(x, i)' onto places of the call's own, with a word on what stays -/
theorem wpList_appI2 (w0 w : World) {ops : Array Oper} {rest : List Oper} {o : Oper} {act : Act} {Q : Exit → Act → World → Prop} (hgd : o.guard = none) (s x : Operand)
    (ho : o.op = .call { callee := .builtin .append, args := #[s, x], argTypes := #[41, 41] }) (base : Nat) (a : Option Addr) (m c : Nat) (xs : List Nat) (hs : act.eval s = .slice a m c) (hown : OwnI w base (.slice a m c) xs)
    (i : Nat) (hx : act.eval x = .slice (some ⟨w.heap.size, 0, none⟩) 1 1) (hlen : xs.length ≤ 1000) (hB : Below base w0 w) (hbase : base ≤ w.heap.size)
    (h : ∀ v' w', OwnI w' base v' (xs ++ [i]) → w.grownBy w' (Value.slice a m c).ownBlock → Below base w0 w' → wpList Try.prog ops Q rest (act.put o.dst v') w') : wpList Try.prog ops Q (o :: rest) act (w.alloc (.cells #[.int .i64 (i : Int)] 3)) := by
  obtain ⟨i0, hi0, hz0, hz1, hz2⟩ := infos3
  refine wpList_append1 w hgd s x 41 ho base 3 i0 (.int .i64 0) 8 Try.underlying41 hi0 hz0 hz1 hz2 rfl (.slice a m c) xs.length (xs.map intv) hs hown (intv i) w.heap.size hx rfl rfl (by omega) (by decide) hbase (fun v' w' h1 h2 => ?_)
  exact h v' w' (OwnI.push h1) h2 (hB.grown h2 hbase (fun g hg => ownsRow_base hown g hg))

/-- out is what was taken, in what is left; they lie apart -/
structure OrdI (w : World) (K : Nat → Nat → Int) (Nr : Nat → Int) (n k : Nat) (x y : Value) (b2 : Nat) (wr : World) : Prop where
  out : OwnI wr w.heap.size x (outP K Nr (List.range n) k)
  rest : OwnI wr b2 y (restP K Nr (List.range n) k)
  sep : ∀ g, x.ownBlock = some g → g < b2
  base : w.heap.size ≤ b2
  below : Below w.heap.size w wr
/-- behind the append of what is taken -/
structure OrdJ (w : World) (K : Nat → Nat → Int) (Nr : Nat → Int) (n k : Nat) (x y : Value) (wr : World) : Prop where
  out : OwnI wr w.heap.size x (outP K Nr (List.range n) (k + 1))
  rest : OwnI wr w.heap.size y (restP K Nr (List.range n) k)
  below : Below w.heap.size w wr
theorem OrdI.push {w : World} {K : Nat → Nat → Int} {Nr : Nat → Int} {n k : Nat} {x x' y : Value} {b2 : Nat} {wr w3 w4 : World} (h : OrdI w K Nr n k x y b2 wr) (B3 : Below wr.heap.size wr w3)
    (ho : OwnI w4 w.heap.size x' (outP K Nr (List.range n) k ++ [pickP K Nr (restP K Nr (List.range n) k)])) (hg : w3.grownBy w4 x.ownBlock) (hB : Below w.heap.size w w4) : OrdJ w K Nr n k x' y w4 := by
  refine ⟨by rw [outP_succ]; exact ho, (ownI_of_heap (h.rest.below B3) fun g hgy => hg.block g ?_ ?_).less h.base, hB⟩
  · exact Nat.lt_of_lt_of_le (h.rest.block g hgy).2 B3.size
  · intro e
    have h1 := h.sep g e.symm
    have h2 := (h.rest.block g hgy).1
    omega
theorem OrdJ.next {w : World} {K : Nat → Nat → Int} {Nr : Nat → Int} {n k : Nat} {x y z : Value} {wr w2 : World} (h : OrdJ w K Nr n k x y wr)
    (hz : OwnI w2 wr.heap.size z ((restP K Nr (List.range n) k).filter fun i => decide (i ≠ pickP K Nr (restP K Nr (List.range n) k)))) (hB : Below wr.heap.size wr w2) : OrdI w K Nr n (k + 1) x z wr.heap.size w2 :=
  ⟨h.out.below hB, hz, fun g hg => (h.out.block g hg).2, h.below.size, h.below.trans (hB.mono h.below.size)⟩

set_option maxHeartbeats 1000000 in
theorem porder_any (L : List Cnd) (a : Option Addr) (n c : Nat) (w : World) (hL : CandsV w a n L) (hn : n ≤ 1000) (hpl : ∀ c ∈ L, c.pl ≤ 1000000) :
    Calls Try.prog 17 #[.slice a n c] w fun e w' => (∃ v, e = .returned v ∧ OwnI w' w.heap.size v (outP (KL L) (NL L) (List.range n) n)) ∧ Below w.heap.size w w' := by
  have HL := hidp hL
  have HPL := hidp hpl
  clear hL hpl
  go_enter Try.func17, Try.ntmps17
  go_wp2
  go_loopw [4, 12] (fun x i wr => ∃ (j : Nat) (a : Option Addr) (c : Nat), j ≤ n ∧ i = .int .i64 j ∧ x = .slice a j c ∧ OwnI wr w.heap.size (.slice a j c) (List.range j) ∧ Below w.heap.size w wr) (fun _ i _ => n - (intOf i).toNat)
  case atStart => exact ⟨0, _, _, by omega, rfl, rfl, OwnI.nil _ _, Below.refl _ _⟩
  case round =>
    obtain ⟨j, a1, c1, hj, rfl, rfl, hO, hB⟩ := hrel
    obtain ⟨w1, rfl⟩ : ∃ w1, w1 = wr := ⟨_, rfl⟩
    have HO := hidp hO
    have HB := hidp hB
    clear hO hB
    by_cases hlt : j < n
    · have l1 : (j : Int) < (n : Int) := by omega
      go_wp2_with (first
        | (at_builtin
           refine wpList_appI w w1 rfl (.tmp 15) (.tmp 17) rfl w.heap.size a1 j c1 (List.range j) rfl HO.out j rfl (by simp; omega) HB.out HB.out.size ?_
           intro v' w' h1 h2
           have H1 := hidp (And.intro h1 h2)
           clear h1 h2))
      go_roundw
      case rel =>
        obtain ⟨a', c', e⟩ := H1.out.1.slice
        have h1 := H1.out.1
        rw [e] at h1
        rw [← List.range_succ] at h1 e
        rw [List.length_range] at h1 e
        exact ⟨j + 1, a', c', by omega, by go_num, e, h1, H1.out.2⟩
      case measure => simp [intOf]; omega
    · have l1 : ¬ (j : Int) < (n : Int) := by omega
      obtain rfl : j = n := by omega
      go_wp2
      go_loopw [3, 4] (fun x y wr => ∃ (k : Nat) (a : Option Addr) (m : Nat) (c : Nat) (a2 : Option Addr) (c2 : Nat) (b2 : Nat), k ≤ j ∧ m = j - k ∧ y = .slice a m c ∧ x = .slice a2 k c2 ∧ OrdI w (KL L) (NL L) j k (.slice a2 k c2) (.slice a m c) b2 wr) (fun _ y _ => lenOf y)
      case atStart => exact ⟨0, _, _, _, _, _, _, by omega, rfl, rfl, rfl, ⟨OwnI.nil _ _, HO.out, fun g hg => (by cases hg), Nat.le_refl _, HB.out⟩⟩
      case round =>
        clear hj hlt l1 HO HB
        obtain ⟨k, a2, m2, c2, a3, c3, b2, hk, hm, rfl, rfl, hI⟩ := hrel
        obtain ⟨w2, rfl⟩ : ∃ w2, w2 = wr := ⟨_, rfl⟩
        have HI := hidp hI
        have hok := RestOk.of (KL L) (NL L) j k hk
        have hR := hI.rest
        clear hI
        by_cases hkj : k < j
        · obtain ⟨ys, hys⟩ : ∃ ys, ys = restP (KL L) (NL L) (List.range j) k := ⟨_, rfl⟩
          rw [← hys] at hok hR
          obtain rfl : m2 = ys.length := by rw [hok.len, hm]
          have hne : ys ≠ [] := by intro h0; rw [h0] at hm; simp at hm; omega
          have HPK := hidp (fun r (h : BestOf (KL L) (NL L) ys r) => best_pick (KL L) (NL L) hok.sorted hne h)
          obtain ⟨p, hp⟩ : ∃ p, p = pickP (KL L) (NL L) ys := ⟨_, rfl⟩
          have HYS := hidp hys
          have HP := hidp hp
          have HOK := hidp hok
          have l1 : (ys.length : Int) > 0 := by omega
          have l0 : 0 < ys.length := by omega
          clear hp hok hm hne hys
          have hrow : ∃ g o, a2 = some ⟨g, o, none⟩ ∧ ∀ i (hi : i < ys.length), w2.cell? ⟨g, o + i, none⟩ = some (.int .i64 (ys[i] : Int)) := by
            obtain ⟨a4, c4, e4, h4⟩ := hR.row.ints
            cases e4
            exact h4 (by omega)
          have HR := hidp hR
          obtain ⟨g, o, rfl, hci⟩ := hrow
          clear hci hR
          go_wp2_with (first
            | (go_at_call 20; refine (best_any L ys a j c _ _ (HL.out.below HI.out.below) HR.out.row HOK.out.below hn (by rw [HOK.out.len]; omega) HPL.out).mono ?_
               rintro e w3 ⟨⟨r, rfl, hr⟩, B3⟩
               obtain rfl := (HPK.out r hr).trans (by rw [← HP.out])
               have H3 := hidp B3
               clear hr B3)
            | (at_builtin
               refine wpList_appI2 w _ rfl (.tmp 26) (.tmp 28) rfl w.heap.size a3 k c3 _ rfl (HI.out.out.below H3.out) p rfl (by rw [outP_len]; omega) (HI.out.below.trans (H3.out.mono HI.out.below.size)) (Nat.le_trans HI.out.below.size H3.out.size) ?_
               intro v' w4 h1 h2 h3
               have h1' : OwnI w4 w.heap.size v' (outP (KL L) (NL L) (List.range j) k ++ [pickP (KL L) (NL L) (restP (KL L) (NL L) (List.range j) k)]) := by rw [← HYS.out, ← HP.out]; exact h1
               have hJ := HI.out.push H3.out h1' h2 h3
               have H4 := hidp hJ
               clear h1 h2 h3 h1' hJ))
          have hrow : ∀ i (hi : i < ys.length), w4.cell? ⟨g, o + i, none⟩ = some (.int .i64 (ys[i] : Int)) := by
            have hR := H4.out.rest
            rw [← HYS.out] at hR
            obtain ⟨a4, c4, e4, h4⟩ := hR.row.ints
            cases e4
            obtain ⟨g', o', e', h5⟩ := h4 (by omega)
            cases e'
            exact h5
          have HCI := hidp hrow
          clear hrow HI H3
          have hkn : ys.length ≤ 1000 := by rw [HOK.out.len]; omega
          go_loopw [7, 32] (fun x i wr => ∃ (q : Nat) (a : Option Addr) (m c : Nat), q ≤ ys.length ∧ i = .int .i64 q ∧ x = .slice a m c ∧ OwnI wr w4.heap.size (.slice a m c) ((ys.take q).filter fun i => decide (i ≠ p)) ∧ Below w4.heap.size w4 wr) (fun _ i _ => ys.length - (intOf i).toNat)
          case atStart => exact ⟨0, _, _, _, by omega, rfl, rfl, OwnI.nil _ _, Below.refl _ _⟩
          case round =>
            obtain ⟨q, a5, m5, c5, hq, rfl, rfl, hO5, hB5⟩ := hrel
            obtain ⟨w5, rfl⟩ : ∃ w5, w5 = wr := ⟨_, rfl⟩
            have HO5 := hidp hO5
            have HB5 := hidp hB5
            clear hO5 hB5
            by_cases hlt : q < ys.length
            · have l2 : (q : Int) < (ys.length : Int) := by omega
              have hft := filter_take hlt fun i => decide (i ≠ p)
              have ci := below_cell HB5.out (Nat.le_refl _) _ _ (HCI.out q hlt)
              generalize ys[q] = iy at *
              have HFT := hidp hft
              clear hft
              by_cases hip : iy = p
              · have l3 : ((iy : Int) != (p : Int)) = false := by simp [hip]
                have HF := hidp (show (ys.take (q + 1)).filter (fun i => decide (i ≠ p)) = (ys.take q).filter fun i => decide (i ≠ p) by rw [HFT.out]; simp [hip])
                clear hip
                go_wp2
                go_roundw
                case rel => exact ⟨q + 1, a5, m5, c5, by omega, by go_num, rfl, by rw [HF.out]; exact HO5.out, HB5.out⟩
                case measure => simp [intOf]; omega
              · have l3 : ((iy : Int) != (p : Int)) = true := by simp; omega
                have HF := hidp (show (ys.take (q + 1)).filter (fun i => decide (i ≠ p)) = ((ys.take q).filter fun i => decide (i ≠ p)) ++ [iy] by rw [HFT.out]; simp [hip])
                clear hip
                have hm5 : ((ys.take q).filter fun i => decide (i ≠ p)).length = m5 := by
                  obtain ⟨a', c', e⟩ := HO5.out.slice
                  cases e
                  rfl
                have hml : m5 ≤ 1000 := by
                  rw [← hm5]
                  have h1 := List.length_filter_le (fun i => decide (i ≠ p)) (ys.take q)
                  have h2 := List.length_take_le q ys
                  omega
                have HM := hidp hm5
                clear hm5
                go_wp2_with (first
                  | (at_builtin
                     refine wpList_appI w4 w5 rfl (.tmp 39) (.tmp 41) rfl w4.heap.size a5 m5 c5 _ rfl HO5.out iy rfl (by rw [HM.out]; exact hml) HB5.out HB5.out.size ?_
                     intro v' w' h1 h2
                     have H1 := hidp (And.intro h1 h2)
                     clear h1 h2))
                go_roundw
                case rel =>
                  obtain ⟨a', c', e⟩ := H1.out.1.slice
                  have h1 := H1.out.1
                  rw [e] at h1
                  rw [← HF.out] at h1 e
                  exact ⟨q + 1, a', _, c', by omega, by go_num, e, h1, H1.out.2⟩
                case measure => simp [intOf]; omega
            · have l2 : ¬ (q : Int) < (ys.length : Int) := by omega
              obtain rfl : q = ys.length := by omega
              rw [List.take_length] at HO5
              have hz : OwnI w5 w4.heap.size (.slice a5 m5 c5) ((restP (KL L) (NL L) (List.range j) k).filter fun i => decide (i ≠ pickP (KL L) (NL L) (restP (KL L) (NL L) (List.range j) k))) := by
                rw [← HYS.out, ← HP.out]; exact HO5.out
              have hm5 : m5 = j - (k + 1) := by
                have h1 := (RestOk.of (KL L) (NL L) j (k + 1) (by omega)).len
                have h2 : restP (KL L) (NL L) (List.range j) (k + 1) = (restP (KL L) (NL L) (List.range j) k).filter fun i => decide (i ≠ pickP (KL L) (NL L) (restP (KL L) (NL L) (List.range j) k)) := rfl
                rw [h2] at h1
                rw [← h1]
                obtain ⟨a', c', e⟩ := hz.slice
                cases e
                rfl
              have HN := hidp (H4.out.next hz HB5.out)
              have HM5 := hidp hm5
              have HL5 := hidp HOK.out.len
              clear hz hm5
              obtain ⟨a6, c6, e6⟩ : ∃ a6 c6, v' = .slice a6 (k + 1) c6 := by
                obtain ⟨a', c', e⟩ := H4.out.out.slice
                rw [outP_len] at e
                exact ⟨a', c', e⟩
              subst e6
              go_wp2
              go_roundw
              case rel => exact ⟨k + 1, a5, m5, c5, a6, c6, _, by omega, HM5.out, rfl, rfl, HN.out⟩
              case measure => simp only [lenOf]; rw [HM5.out, HL5.out]; omega
        · have l1 : ¬ (m2 : Int) > 0 := by omega
          obtain rfl : k = j := by omega
          clear hR hok
          go_wp2
          go_ret
          exact ⟨⟨_, rfl, HI.out.out⟩, HI.out.below⟩
end Go.Proofs.Ythfchjcbkmabpaa
