/- The document's split of a list of cursors. -/
import Derived.Test.YtkmhdffkganhaaaCF
namespace Go.Proofs.Ytkmhdffkganhaaa
open Go.RowKit

/-- a row of the document's cursors of the call's own -/
def OutD (w : World) (base : Nat) (v : Value) (L : List Cur) : Prop := w.ownsRow base 53 16 v L.length (L.flatMap Cur.cells)
theorem OutD.row {w : World} {base : Nat} {v : Value} {L : List Cur} (h : OutD w base v L) : ∃ a cap, v = .slice a L.length cap ∧ RowC w a L ∧ ∀ ad, a = some ad → ∃ C, w.heap[ad.block]? = some (.cells C 53 (0, 0)) := by
  have h' := h
  obtain ⟨_, ⟨hv, h0⟩ | ⟨g, cap, cur, hv, hg, hh, r⟩⟩ := h'
  · exact ⟨none, 0, by rw [hv, h0], fun hp => absurd hp (by omega), fun ad had => by cases had⟩
  · refine ⟨some ⟨g, 0, none⟩, cap, hv, fun _ => ⟨g, 0, rfl, fun i hi j u hu => ?_⟩, fun ad had => by cases had; exact ⟨_, hh⟩⟩
    have hk : j < 16 := by have := (List.getElem?_eq_some_iff.1 hu).1; rwa [Cur.len] at this
    have hc := World.ownsRow.cells (g := g) h (by rw [hv]; rfl) (i * 16 + j) u (by rw [flat_at L i j hi hk]; exact hu)
    rw [Addr.add_mid] at hc
    rw [Nat.add_assoc]
    exact hc
theorem OutD.below {w w' : World} {base : Nat} {v : Value} {L : List Cur} (h : OutD w base v L) (hB : Below w.heap.size w w') : OutD w' base v L := ownsRow_below h hB (Nat.le_refl _)
theorem Try.infos53 : (Try.prog.info? 53).map (fun i => (i.zero, i.size, i.bytes)) = some (some zero34, 16, 152) := by kernel_rfl
theorem news_at53 (w : World) (c : Cur) : ∀ j u, c.cells[j]? = some u → (w.alloc (.cells c.cells.toArray 53)).cell? ((⟨w.heap.size, 0, none⟩ : Addr).add j) = some u := by
  intro j u hu
  rw [Addr.add_mid, Nat.zero_add]
  exact cellOf (heap_alloc_new w _) _ (by simpa using hu)
/-- what the loop of 'split' carries -/
structure SpRel (w : World) (p : Cur → Bool) (L : List Cur) (j : Nat) (o r : Value) (wr : World) : Prop where
  outs : OutD wr w.heap.size o ((L.take j).filter p)
  rest : OutD wr w.heap.size r ((L.take j).filter (fun c => !p c))
  sep : ∀ g, o.ownBlock = some g → r.ownBlock ≠ some g
  below : Below w.heap.size w wr
theorem SpRel.later {w wr w' : World} {p : Cur → Bool} {L : List Cur} {j : Nat} {o r : Value} (h : SpRel w p L j o r wr) (hB : Below wr.heap.size wr w') : SpRel w p L j o r w' :=
  ⟨ownsRow_below h.outs hB (Nat.le_refl _), ownsRow_below h.rest hB (Nat.le_refl _), h.sep, h.below.trans (hB.mono h.below.size)⟩
theorem SpRel.yes {w wr w' : World} {p : Cur → Bool} {L : List Cur} {j : Nat} {o r o' : Value} (h : SpRel w p L j o r wr) (hj : j < L.length) (hp : p L[j] = true)
    (ho : w'.ownsRow w.heap.size 53 16 o' (((L.take j).filter p).length + 1) (((L.take j).filter p).flatMap Cur.cells ++ L[j].cells)) (hg : wr.grownBy w' o.ownBlock) (hat : ∀ g, o'.ownBlock = some g → o.ownBlock = some g ∨ wr.heap.size ≤ g) :
    SpRel w p L (j + 1) o' r w' := by
  have e1 := filter_snoc p L j hj
  have e2 := filter_snoc (fun c => !p c) L j hj
  rw [hp, if_pos rfl] at e1
  simp only [hp, Bool.not_true, Bool.false_eq_true, if_false, List.append_nil] at e2
  refine ⟨?_, ?_, fun g hgo hgr => ?_, h.below.grown hg h.below.size fun g hgo => (ownsRow_block h.outs g hgo).1⟩
  · unfold OutD
    rw [e1, List.length_append, List.flatMap_append]
    simpa using ho
  · rw [e2]
    exact ownsRow_of_heap h.rest fun g hgr => by
      obtain ⟨_, c, hc⟩ := ownsRow_block h.rest g hgr
      exact hg.block g (ltOf hc) (fun e => h.sep g e.symm hgr)
  · obtain ⟨_, c, hc⟩ := ownsRow_block h.rest g hgr
    have := ltOf hc
    rcases hat g hgo with e | e
    · exact h.sep g e hgr
    · omega
theorem SpRel.no {w wr w' : World} {p : Cur → Bool} {L : List Cur} {j : Nat} {o r r' : Value} (h : SpRel w p L j o r wr) (hj : j < L.length) (hp : p L[j] = false)
    (ho : w'.ownsRow w.heap.size 53 16 r' (((L.take j).filter (fun c => !p c)).length + 1) (((L.take j).filter (fun c => !p c)).flatMap Cur.cells ++ L[j].cells)) (hg : wr.grownBy w' r.ownBlock) (hat : ∀ g, r'.ownBlock = some g → r.ownBlock = some g ∨ wr.heap.size ≤ g) :
    SpRel w p L (j + 1) o r' w' := by
  have e1 := filter_snoc p L j hj
  have e2 := filter_snoc (fun c => !p c) L j hj
  simp only [hp, Bool.not_false, if_true] at e2
  rw [hp] at e1
  simp only [Bool.false_eq_true, if_false, List.append_nil] at e1
  refine ⟨?_, ?_, fun g hgo hgr => ?_, h.below.grown hg h.below.size fun g hgr => (ownsRow_block h.rest g hgr).1⟩
  · rw [e1]
    exact ownsRow_of_heap h.outs fun g hgo => by
      obtain ⟨_, c, hc⟩ := ownsRow_block h.outs g hgo
      exact hg.block g (ltOf hc) (fun e => h.sep g hgo e.symm)
  · unfold OutD
    rw [e2, List.length_append, List.flatMap_append]
    simpa using ho
  · obtain ⟨_, c, hc⟩ := ownsRow_block h.outs g hgo
    have := ltOf hc
    rcases hat g hgr with e | e
    · exact h.sep g hgo e
    · omega

/-- what is asked -/
def AskIs (ask n : Int) (p : Cur → Bool) : Prop := (ask = 0 ∧ p = fun c => c.id == n) ∨ (ask = 1 ∧ p = fun c => c.owner == n) ∨ (ask = 2 ∧ p = fun c => decide (n ≤ c.age))
set_option maxHeartbeats 2000000 in
theorem split_any (a : Option Addr) (m c : Nat) (L : List Cur) (ask n : Int) (p : Cur → Bool) (w : World) (hR : RowC w a L) (hm : L.length = m) (hp : AskIs ask n p) (hn : L.length ≤ 1000) :
    Calls Try.prog 36 #[.slice a m c, .int .i64 ask, .int .i64 n] w fun e w' => (∃ s g, e = .returned (.tuple #[s, g]) ∧ OutD w' w.heap.size s (L.filter fun c => !p c) ∧ OutD w' w.heap.size g (L.filter p)) ∧ Below w.heap.size w w' := by
  subst hm
  have HR := hidp hR
  have HP := hidp hp
  clear hR hp
  obtain ⟨i0, hi0, hz0, hz1, hz2⟩ := info_parts Try.infos53
  go_enter Try.func36, Try.ntmps36
  go_wp2
  go_loopw [8, 9, 10] (fun r o i wr => ∃ j : Nat, j ≤ L.length ∧ i = .int .i64 j ∧ SpRel w p L j o r wr) (fun _ _ i _ => L.length - (intOf i).toNat)
  case atStart => exact ⟨0, by omega, rfl, World.ownsRow_nil _ _ _ _, World.ownsRow_nil _ _ _ _, fun g hg => (by cases hg), Below.refl _ _⟩
  case round =>
    obtain ⟨j, hj, rfl, hG⟩ := hrel
    obtain ⟨w1, rfl⟩ : ∃ w1, w1 = wr := ⟨_, rfl⟩
    have HG := hidp hG
    clear hG
    by_cases hlt : j < L.length
    · have l1 : (j : Int) < (L.length : Int) := by omega
      obtain ⟨g, off, rfl, hr⟩ := HR.out (by omega)
      have hrj : ∀ W, Below w.heap.size w W → W.rangeAt g (off + j * 16) L[j].cells := fun W hW k v hv => below_cell hW (Nat.le_refl _) _ _ (hr j hlt k v hv)
      have c0 := hrj _ HG.out.below 0 (.int .i64 L[j].id) rfl
      have c1 := hrj _ HG.out.below 1 (.int .i64 L[j].owner) rfl
      have c15 := hrj _ HG.out.below 15 (.int .i64 L[j].age) rfl
      rw [Nat.add_zero] at c0
      obtain ⟨x, hx⟩ : ∃ x, x = L[j] := ⟨_, rfl⟩
      rw [← hx] at hrj c0 c1 c15
      have HX := hidp hx
      have HRJ := hidp hrj
      have hlen : x.cells.length = 16 := Cur.len x
      clear hr hrj hx
      have hx53 : Hid ((Try.prog.info? 53).map (·.size) = some x.cells.length) := Try.info53c x
      obtain ⟨q, hq⟩ : ∃ q, q = p x := ⟨_, rfl⟩
      have HQ := hidp hq
      clear hq
      go_upto_region 5 with (fail)
      go_cut [11] (fun t11 wc => t11 = .bool q ∧ wc = w1)
      case first =>
        rcases HP.out with ⟨rfl, hp⟩ | ⟨rfl, hp⟩ | ⟨rfl, hp⟩
        · have hq : q = (x.id == n) := by rw [HQ.out, hp]
          cases q with
          | true =>
            have l2 : (x.id == n) = true := hq.symm
            clear hq
            go_wp2
            go_meet
            exact ⟨rfl, rfl⟩
          | false =>
            have l2 : (x.id == n) = false := hq.symm
            clear hq
            go_wp2
            go_meet
            exact ⟨rfl, rfl⟩
        · have hq : q = (x.owner == n) := by rw [HQ.out, hp]
          cases q with
          | true =>
            have l2 : (x.owner == n) = true := hq.symm
            clear hq
            go_wp2
            go_meet
            exact ⟨rfl, rfl⟩
          | false =>
            have l2 : (x.owner == n) = false := hq.symm
            clear hq
            go_wp2
            go_meet
            exact ⟨rfl, rfl⟩
        · have hq : q = decide (n ≤ x.age) := by rw [HQ.out, hp]
          cases q with
          | true =>
            have l2 : n ≤ x.age := of_decide_eq_true hq.symm
            clear hq
            go_wp2
            go_meet
            exact ⟨rfl, rfl⟩
          | false =>
            have l2 : ¬ n ≤ x.age := of_decide_eq_false hq.symm
            clear hq
            go_wp2
            go_meet
            exact ⟨rfl, rfl⟩
      case rest =>
        obtain ⟨rfl, rfl⟩ := hcut
        clear c0 c1 c15
        cases q with
        | true =>
          go_wp2_with (first
            | (with_reducible refine wpList_load_mid rfl 53 (.tmp 59) rfl g (off + j * 16) rfl x.cells _ (HRJ.out _ HG.out.below) Try.underlying53 rfl hx53.out ?_)
            | (at_builtin
               rw [fold16]
               refine wpList_append_own_at (wc.alloc (.cells x.cells.toArray 53)) rfl (.tmp 56) (.tmp 61) 50 rfl w.heap.size 53 i0 zero34 16 152 Try.underlying50 hi0 hz0 hz1 hz2 rfl (by omega) u9 _ _ rfl (HG.out.later ((Below.refl _ _).alloc (Nat.le_refl _) _)).outs ⟨wc.heap.size, 0, none⟩ 1 1 x.cells rfl (by rw [Cur.len]) (news_at53 wc x) x.one (by have := List.length_filter_le p (L.take j); simp only [maxLen]; simp at this; omega) (by have := List.length_filter_le p (L.take j); simp at this; omega) (HG.out.later ((Below.refl _ _).alloc (Nat.le_refl _) _)).below.size ?_
               intro o4 w4 hown4 hg4 _ hat4
               have K4 := hidp ((HG.out.later ((Below.refl _ _).alloc (Nat.le_refl _) (.cells x.cells.toArray 53))).yes hlt (by rw [← HX.out]; exact HQ.out.symm) (by rw [← HX.out]; exact hown4) hg4 (fun gg hgg => by rcases hat4 with e | e; exact .inl (e ▸ hgg); exact .inr (by rw [e] at hgg; cases hgg; exact Nat.le_refl _)))
               clear hown4 hg4 hat4))
          go_roundw
          case rel => exact ⟨j + 1, by omega, by go_num, K4.out⟩
          case measure => simp [intOf]; omega
        | false =>
          go_wp2_with (first
            | (with_reducible refine wpList_load_mid rfl 53 (.tmp 66) rfl g (off + j * 16) rfl x.cells _ (HRJ.out _ HG.out.below) Try.underlying53 rfl hx53.out ?_)
            | (at_builtin
               rw [fold16]
               refine wpList_append_own_at (wc.alloc (.cells x.cells.toArray 53)) rfl (.tmp 63) (.tmp 68) 50 rfl w.heap.size 53 i0 zero34 16 152 Try.underlying50 hi0 hz0 hz1 hz2 rfl (by omega) u8 _ _ rfl (HG.out.later ((Below.refl _ _).alloc (Nat.le_refl _) _)).rest ⟨wc.heap.size, 0, none⟩ 1 1 x.cells rfl (by rw [Cur.len]) (news_at53 wc x) x.one (by have := List.length_filter_le (fun c => !p c) (L.take j); simp only [maxLen]; simp at this; omega) (by have := List.length_filter_le (fun c => !p c) (L.take j); simp at this; omega) (HG.out.later ((Below.refl _ _).alloc (Nat.le_refl _) _)).below.size ?_
               intro o4 w4 hown4 hg4 _ hat4
               have K4 := hidp ((HG.out.later ((Below.refl _ _).alloc (Nat.le_refl _) (.cells x.cells.toArray 53))).no hlt (by rw [← HX.out]; exact HQ.out.symm) (by rw [← HX.out]; exact hown4) hg4 (fun gg hgg => by rcases hat4 with e | e; exact .inl (e ▸ hgg); exact .inr (by rw [e] at hgg; cases hgg; exact Nat.le_refl _)))
               clear hown4 hg4 hat4))
          go_roundw
          case rel => exact ⟨j + 1, by omega, by go_num, K4.out⟩
          case measure => simp [intOf]; omega
    · have l1 : ¬ (j : Int) < (L.length : Int) := by omega
      have ht : L.take j = L := List.take_of_length_le (by omega)
      have hO := HG.out.outs
      have hS := HG.out.rest
      rw [ht] at hO hS
      have HO := hidp hO
      have HS := hidp hS
      clear hO hS ht
      go_wp2
      go_ret2
      exact ⟨⟨_, _, rfl, HS.out, HO.out⟩, HG.out.below⟩
end Go.Proofs.Ytkmhdffkganhaaa
