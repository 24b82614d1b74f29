/- The document's Tick, Move. -/
import Derived.Test.YtkmhdffkganhaaaCJ
namespace Go.Proofs.Ytkmhdffkganhaaa
open Go.RowKit

/-- 'append(l, x)' onto a list of the call's own -/
theorem wpList_appC (w0 w : World) {ops : Array Oper} {rest : List Oper} {o : Oper} {act : Act} {Q : Exit → Act → World → Prop} (hgd : o.guard = none) (s x : Operand)
    (ho : o.op = .call { callee := .builtin .append, args := #[s, x], argTypes := #[50, 50] }) (base : Nat) (v : Value) (M : List Cur) (hs : act.eval s = v) (hown : OutD w base v M)
    (c : Cur) (hx : act.eval x = .slice (some ⟨w.heap.size, 0, none⟩) 1 1) (hlen : M.length ≤ 1000) (hB : Below base w0 w) (hbase : base ≤ w.heap.size)
    (h : ∀ v' w', OutD w' base v' (M ++ [c]) → Below base w0 w' → wpList Try.prog ops Q rest (act.put o.dst v') w') : wpList Try.prog ops Q (o :: rest) act (w.alloc (.cells c.cells.toArray 53)) := by
  obtain ⟨i0, hi0, hz0, hz1, hz2⟩ := info_parts Try.infos53
  have hBA : Below w.heap.size w (w.alloc (.cells c.cells.toArray 53)) := (Below.refl _ _).alloc (Nat.le_refl _) _
  refine wpList_append_own_at (w.alloc (.cells c.cells.toArray 53)) hgd s x 50 ho base 53 i0 zero34 16 152 Try.underlying50 hi0 hz0 hz1 hz2 rfl (by omega) v _ _ hs (hown.below hBA) ⟨w.heap.size, 0, none⟩ 1 1 c.cells hx (by rw [Cur.len]) (news_at53 w c) c.one (by simp only [maxLen]; omega) (by omega) (by simp; omega) ?_
  intro v' w' hown' hg' _ _
  refine h v' w' ?_ ((hB.trans (hBA.mono hbase)).grown hg' (by simp; omega) fun g hg => (ownsRow_block hown g hg).1)
  unfold OutD
  rw [List.length_append, List.flatMap_append]
  simpa using hown'
theorem take_map {L : List Cur} (f : Cur → Cur) {j : Nat} (hj : j < L.length) : (L.take (j + 1)).map f = (L.take j).map f ++ [f L[j]] := by
  rw [List.take_succ_eq_append_getElem hj, List.map_append]
  rfl
theorem take_any {L : List Cur} (p : Cur → Bool) {j : Nat} (hj : j < L.length) : (L.take (j + 1)).any p = ((L.take j).any p || p L[j]) := by
  rw [List.take_succ_eq_append_getElem hj, List.any_append]
  simp
structure AccR (w : World) (v : Value) (M : List Cur) (wr : World) : Prop where
  out : OutD wr w.heap.size v M
  bel : Below w.heap.size w wr
theorem AccR.len {w wr : World} {v : Value} {M : List Cur} (h : AccR w v M wr) : ∃ a c, v = .slice a M.length c := ownsRow_slice h.out
set_option maxHeartbeats 2000000 in
theorem doc_tick (base d : Nat) (a : Option Addr) (c : Nat) (L : List Cur) (most life last : Int) (w : World) (h : DocIs w base d a c L most life last) (hn : L.length ≤ 1000) (ha : ∀ c ∈ L, 0 ≤ c.age ∧ c.age ≤ 1000000) :
    Calls Try.prog 26 #[.pointer (some ⟨d, 0, none⟩)] w fun e w' => ∃ g, e = .returned g ∧ OutD w' w.heap.size g ((L.map Cur.older).filter fun c => decide (life ≤ c.age)) ∧ (∃ a' c', DocIs w' base d a' c' ((L.map Cur.older).filter fun c => !decide (life ≤ c.age)) most life last) ∧ Frame1 d w w' := by
  have H := hidp h
  have hd := ltOf h.blk
  have HA := hidp ha
  clear h ha
  go_enter Try.func26, Try.ntmps26
  go_wp2
  go_loopw [3, 4] (fun x i wr => ∃ j : Nat, j ≤ L.length ∧ i = .int .i64 j ∧ AccR w x ((L.take j).map Cur.older) wr) (fun _ i _ => L.length - (intOf i).toNat)
  case atStart => exact ⟨0, by omega, rfl, World.ownsRow_nil _ _ _ _, Below.refl _ _⟩
  case round =>
    obtain ⟨j, hj, rfl, hG⟩ := hrel
    obtain ⟨w1, rfl⟩ : ∃ w1, w1 = wr := ⟨_, rfl⟩
    have HG := hidp hG
    have hD := H.out.below hG.bel
    have c3 := cellOf hD.blk 3 (v := .slice a L.length c) rfl
    have hd1 := ltOf hD.blk
    clear hG
    by_cases hlt : j < L.length
    · have l1 : (j : Int) < (L.length : Int) := by omega
      obtain ⟨g, off, rfl, hr⟩ := hD.row (by omega)
      have hrj := hr j hlt
      have hag := HA.out _ (List.getElem_mem hlt)
      have htm := take_map Cur.older hlt
      generalize L[j] = y at *
      have HTM := hidp htm
      have HRJ := hidp hrj
      have hlen : y.cells.length = 16 := Cur.len y
      have hlen2 : y.older.cells.length = 16 := Cur.len _
      have hy53 : Hid ((Try.prog.info? 53).map (·.size) = some y.cells.length) := Try.info53c y
      have hy53' : Hid ((Try.prog.info? 53).map (·.size) = some y.cells.toArray.size) := Try.info53c y
      have hy53o : Hid ((Try.prog.info? 53).map (·.size) = some y.older.cells.toArray.size) := Try.info53c y.older
      have hml : ((L.take j).map Cur.older).length ≤ 1000 := by simp; omega
      have HML := hidp hml
      clear hr hrj htm hD hml
      go_upto_region 6 with (first
        | (with_reducible refine wpList_load_mid rfl 53 (.tmp 22) rfl g (off + j * 16) rfl y.cells _ HRJ.out Try.underlying53 rfl hy53.out ?_)
        | (with_reducible refine wpList_store_row rfl 53 (.tmp 5) (.tmp 23) rfl w1.heap.size y.cells.toArray rfl rfl 53 _ (heap_alloc_new w1 _) hy53'.out rfl (all_one y) ?_
           rw [World.setRow_alloc_new]
           have hB2 : Below w1.heap.size w1 (w1.alloc (.cells y.cells.toArray 53)) := (Below.refl _ _).alloc (Nat.le_refl _) _
           have hK2 := heap_alloc_new w1 (.cells y.cells.toArray 53)
           generalize w1.alloc (.cells y.cells.toArray 53) = w2 at *
           have d15 := cellOf hK2 15 (v := .int .i64 y.age) rfl
           have f15 := frozenOf hK2 15
           have hs2 := ltOf hK2
           have H2 := hidp (And.intro hB2 hK2)
           clear hB2 hK2))
      go_upto_region 7 with (fail)
      have hk3 : (w2.setCell ⟨w1.heap.size, 15, none⟩ (.int .i64 (y.age + 1))).heap[w1.heap.size]? = some (.cells y.older.cells.toArray 53 (0, 0)) := by
        rw [show y.older.cells.toArray = y.cells.toArray.setIfInBounds 15 (.int .i64 (y.age + 1)) from rfl]
        exact heap_setCell_same H2.out.2 15 _
      have hb3 : Below w1.heap.size w1 (w2.setCell ⟨w1.heap.size, 15, none⟩ (.int .i64 (y.age + 1))) := H2.out.1.setCell (Nat.le_refl _) _
      generalize w2.setCell ⟨w1.heap.size, 15, none⟩ (.int .i64 (y.age + 1)) = w3 at *
      have HG3 := hidp (AccR.mk (HG.out.out.below hb3) (HG.out.bel.trans (hb3.mono HG.out.bel.size)))
      obtain ⟨z, hz⟩ : ∃ z, z = y.older := ⟨_, rfl⟩
      rw [← hz] at hk3 hy53o hlen2 HTM
      have K3 := hidp hk3
      clear hk3 hb3 d15 f15 hz
      go_wp2_with (first
        | (with_reducible refine wpList_load_row rfl 53 (.tmp 5) rfl w1.heap.size rfl 53 z.cells.toArray (0, 0) _ K3.out Try.underlying53 rfl hy53o.out ?_)
        | (at_builtin
           rw [fold16]
           refine wpList_appC w w3 rfl (.tmp 28) (.tmp 30) rfl w.heap.size u3 _ rfl HG3.out.out z rfl HML.out HG3.out.bel HG3.out.bel.size ?_
           intro v' w4 h1 h2
           have h1' : OutD w4 w.heap.size v' ((L.take (j + 1)).map Cur.older) := by rw [HTM.out]; exact h1
           have H4 := hidp (AccR.mk h1' h2)
           clear h1 h2 h1'))
      go_roundw
      case rel => exact ⟨j + 1, by omega, by go_num, H4.out⟩
      case measure => simp [intOf]; omega
    · have l1 : ¬ (j : Int) < (L.length : Int) := by omega
      have ht : L.take j = L := List.take_of_length_le (by omega)
      rw [ht] at HG
      have c1 := cellOf hD.blk 1 (v := .int .i64 life) rfl
      have D := hidp hD
      obtain ⟨ao, co, hao⟩ := HG.out.len
      rw [List.length_map] at hao
      subst hao
      have hrow : RowC w1 ao (L.map Cur.older) := by
        obtain ⟨a', c', e, hr, _⟩ := HG.out.out.row
        rw [List.length_map] at e
        cases e
        exact hr
      have HRO := hidp hrow
      have hml : ((L.map Cur.older)).length ≤ 1000 := by simp; exact hn
      clear hD ht hrow
      go_wp2_with (first
        | (go_at_call 36; refine (split_any ao L.length co (L.map Cur.older) 2 life (fun c => decide (life ≤ c.age)) w1 HRO.out (List.length_map _) (.inr (.inr ⟨rfl, rfl⟩)) hml).mono ?_
           rintro e w2 ⟨⟨s, g, rfl, hS, hG⟩, B2⟩
           obtain ⟨a', c', rfl⟩ := ownsRow_slice hS
           have k2 := heap_below B2 D.out.blk hd1
           have d3 := cellOf k2 3 (v := .slice a L.length c) rfl
           have f3 := frozenOf k2 3
           have H2 := hidp (And.intro hS (And.intro hG B2))
           clear hS hG B2 k2))
      go_ret
      obtain ⟨hS, hG, hB⟩ := H2.out
      exact ⟨_, rfl, ownsRow_weaken (hG.far (heap_below hB D.out.blk hd1) _ _) HG.out.bel.size, ⟨_, _, D.out.put hB hS⟩, (Frame1.of_below (HG.out.bel.trans (hB.mono HG.out.bel.size))).trans (Frame1.setCell w2 3 _)⟩
end Go.Proofs.Ytkmhdffkganhaaa
