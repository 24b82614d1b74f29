/- A map with integer keys that is ranged over: whichever entry comes next. -/
import Derived.Test.YthfchjcbkmabpaaMapI
import Derived.Maps.RangeWalk
namespace Go.Proofs.Ythfchjcbkmabpaa
open Go.RowKit Go.MapKept
open Go.ChangeMaps (setBlock heap_setBlock_same heap_setBlock_other)

/-- Block b is a map whose entries bear stamps below its clock, no two the same. -/
def StampedAt (w : World) (b : Nat) : Prop := ∃ es clock, w.heap[b]? = some (.map es clock) ∧ Stamped es clock
theorem StampedAt.made (w : World) (b : Nat) (hb : b = w.heap.size) : StampedAt (w.alloc (.map #[] 0)) b := by
  subst hb
  exact ⟨#[], 0, heap_alloc_new w _, stamped_empty 0⟩
theorem StampedAt.of_heap {w w' : World} {b : Nat} (h : StampedAt w b) (he : w'.heap[b]? = w.heap[b]?) : StampedAt w' b := by
  obtain ⟨es, clock, hb, r⟩ := h
  exact ⟨es, clock, by rw [he]; exact hb, r⟩
section
variable {q : IntKind} {w : World} {b : Nat} {f : Int → Option Value} {n : Nat} {P : Program}
theorem StampedAt.store (hs : StampedAt w b) (h : MapIs q w b f n) {t K E : TypeId} (ht : P.underlying t = some (.map K E)) (hK : P.underlying K = some (.int q)) (k : Int) (v : Value) {w' : World}
    (hrun : (Instr.mapUpdate t (.map (some b)) (.int q k) v).run P w = .ok () w') : StampedAt w' b := by
  obtain ⟨es, clock, hb, hst⟩ := hs
  obtain ⟨es2, clock2, hb2, _, hkeys, _⟩ := h
  rw [hb] at hb2; cases hb2
  obtain ⟨es', clock', h1, h2, _⟩ := mapUpdate_keeps ht hK hb hst (fun x hx => by obtain ⟨k', e⟩ := hkeys x hx; rw [e]; rfl) (show IsKey (.int q) (.int q k) from rfl) hrun
  exact ⟨es', clock', h1, h2⟩
theorem wpList_update_st {ops : Array Oper} {rest : List Oper} {o : Oper} {a : Act} {Q : Exit → Act → World → Prop} (hg : o.guard = none) (m x v : Operand) (t : TypeId)
    (hop : o.op = Op.mapUpdate t m x v) {K E : TypeId} (ht : P.underlying t = some (.map K E)) (hK : P.underlying K = some (.int q))
    (hm : a.eval m = .map (some b)) (h : MapIs q w b f n) (hs : StampedAt w b) (k : Int) (hx : a.eval x = .int q k) (u : Value) (hv : a.eval v = u)
    (hN : ∀ w', MapIs q w' b (upd f k u) (if (f k).isSome then n else n + 1) → StampedAt w' b → OnlyMap w b w' → wpList P ops Q rest (a.put o.dst undef) w') : wpList P ops Q (o :: rest) a w := by
  refine wpList_plain hg fun K' hK' => ?_
  obtain ⟨w', hrun, r1, r2⟩ := h.store ht hK k u
  have r3 := hs.store h ht hK k u hrun
  unfold Oper.wp
  simp [execOp, hop, hm, hx, hv, hrun, Result.andThen]
  exact hK' _ _ (hN w' r1 r3 r2)

/-- Block b is a map that holds f, block r ranges over it; left: the keys that are still to come. -/
def Rng (q : IntKind) (w : World) (b r : Nat) (f : Int → Option Value) (left : Int → Bool) : Prop :=
  ∃ es clock since seen c0, w.heap[b]? = some (.map es clock) ∧ (∀ x ∈ es.toList, ∃ k, x.key = .int q k) ∧ Stamped es clock ∧ (∀ k v, f k = some v ↔ ∃ x ∈ es.toList, x.key = .int q k ∧ x.val = v) ∧
    w.heap[r]? = some (.mapIter (some b) since seen c0) ∧ (∀ x ∈ es.toList, x.born < since) ∧ since ≤ c0 ∧ since ≤ clock ∧
    (∀ x ∈ es.toList, ∀ k, x.key = .int q k → left k = !seen.contains x.born) ∧ (∀ k, left k = true → (f k).isSome = true)
variable {r : Nat} {left : Int → Bool}
theorem Rng.ne (h : Rng q w b r f left) : r ≠ b := by
  obtain ⟨es, clock, since, seen, c0, hb, _, _, _, hr, _⟩ := h
  intro e
  rw [e, hb] at hr
  cases hr
theorem Rng.ltb (h : Rng q w b r f left) : b < w.heap.size := by
  obtain ⟨es, clock, since, seen, c0, hb, _⟩ := h
  exact (Array.getElem?_eq_some_iff.1 hb).1
theorem Rng.ltr (h : Rng q w b r f left) : r < w.heap.size := by
  obtain ⟨es, clock, since, seen, c0, _, _, _, _, hr, _⟩ := h
  exact (Array.getElem?_eq_some_iff.1 hr).1
theorem Rng.below {B : Nat} {w' : World} (h : Rng q w b r f left) (hb : Below B w w') (h1 : b < B) (h2 : r < B) : Rng q w' b r f left := by
  obtain ⟨es, clock, since, seen, c0, hb', a1, a2, a3, hr, a4⟩ := h
  exact ⟨es, clock, since, seen, c0, by rw [hb.block b h1]; exact hb', a1, a2, a3, by rw [hb.block r h2]; exact hr, a4⟩
theorem rangeLeft_below {B : Nat} {w' : World} (hb : Below B w w') (h1 : b < B) (h2 : r < B) : w'.rangeLeft b r = w.rangeLeft b r := by
  unfold World.rangeLeft
  rw [hb.block b h1, hb.block r h2]
theorem MapIs.range (h : MapIs q w b f n) (hs : StampedAt w b) {t K E : TypeId} (ht : P.underlying t = some (.map K E)) :
    (Instr.range t (.map (some b))).run P w = .ok (.pointer (some ⟨w.heap.size, 0, none⟩)) (w.alloc (.mapIter (some b) (match w.heap[b]? with | some (.map _ c) => c | _ => 0) #[] (match w.heap[b]? with | some (.map _ c) => c | _ => 0))) ∧
      Rng q (w.alloc (.mapIter (some b) (match w.heap[b]? with | some (.map _ c) => c | _ => 0) #[] (match w.heap[b]? with | some (.map _ c) => c | _ => 0))) b w.heap.size f (fun k => (f k).isSome) := by
  obtain ⟨es, clock, hb, hst⟩ := hs
  obtain ⟨es2, clock2, hb2, _, hkeys, _, hf⟩ := h
  rw [hb] at hb2; cases hb2
  simp only [hb]
  refine ⟨run_range_map w t K E b es clock ht hb, es, clock, clock, #[], clock, heap_alloc_at hb _, hkeys, hst, hf, heap_alloc_new w _, ((stamped_iff es clock).1 hst).1, Nat.le_refl _, Nat.le_refl _, fun x hx k hk => ?_, fun k hk => hk⟩
  have : f k = some x.val := (hf k x.val).2 ⟨x, hx, hk, rfl⟩
  simp [this]
theorem wpList_range_is {ops : Array Oper} {rest : List Oper} {o : Oper} {a : Act} {Q : Exit → Act → World → Prop} (hg : o.guard = none) (m : Operand) (t : TypeId) (hop : o.op = Op.range t m) {K E : TypeId} (ht : P.underlying t = some (.map K E))
    (hm : a.eval m = .map (some b)) (h : MapIs q w b f n) (hs : StampedAt w b)
    (hN : ∀ w', Rng q w' b w.heap.size f (fun k => (f k).isSome) → Below w.heap.size w w' → w'.heap.size = w.heap.size + 1 → wpList P ops Q rest (a.put o.dst (.pointer (some ⟨w.heap.size, 0, none⟩))) w') : wpList P ops Q (o :: rest) a w := by
  refine wpList_plain hg fun K' hK' => ?_
  obtain ⟨hrun, hR⟩ := h.range (P := P) hs ht
  unfold Oper.wp
  simp [execOp, hop, hm, hrun, Result.andThen]
  exact hK' _ _ (hN _ hR ((Below.refl _ _).alloc (Nat.le_refl _) _) (by simp))

theorem Rng.next (h : Rng q w b r f left) (ty : TypeId) :
    ((∀ k, left k = false) ∧ (Instr.next (.pointer (some ⟨r, 0, none⟩)) false ty).run P w = .ok (.tuple #[.bool false]) w) ∨
    ∃ k v w', f k = some v ∧ left k = true ∧ (Instr.next (.pointer (some ⟨r, 0, none⟩)) false ty).run P w = .ok (.tuple #[.bool true, .int q k, v]) w' ∧ Rng q w' b r f (fun j => left j && j != k) ∧
      w'.rangeLeft b r < w.rangeLeft b r ∧ (∀ B, B ≤ r → Below B w w') ∧ w'.heap.size = w.heap.size ∧ (Instr.entry (.pointer (some ⟨r, 0, none⟩))).run P w' = .ok (.tuple #[.int q k, v]) w' := by
  have hne := h.ne
  obtain ⟨es, clock, since, seen, c0, hb, hkeys, hst, hf, hr, hold, hsc, hsk, hl1, hl2⟩ := h
  have hst' := (stamped_iff es clock).1 hst
  rcases run_next_at (P := P) w ty r b since c0 seen es clock hr hb hold hsc with ⟨h0, hrun⟩ | ⟨e, he, w1, hal, hrun⟩
  · refine .inl ⟨fun k => ?_, hrun⟩
    cases hk : left k with
    | false => rfl
    | true =>
      have h1 := hl2 k hk
      obtain ⟨v, hv⟩ := Option.isSome_iff_exists.1 h1
      obtain ⟨x, hx, hxk, _⟩ := (hf k v).1 hv
      have := hl1 x hx k hxk
      rw [hk, all_seen es seen h0 x hx] at this
      cases this
  · obtain ⟨hem, hes⟩ := mem_left he
    obtain ⟨k, hk⟩ := hkeys e hem
    have hr1 : w1.heap[r]? = some (.mapIter (some b) since seen c0) := by rcases hal with rfl | rfl <;> exact hr
    have hb1 : w1.heap[b]? = some (.map es clock) := by rcases hal with rfl | rfl <;> exact hb
    have hset := heap_set (o' := .mapIter (some b) since (seen.push e.born) clock) hr1
    have hb' : (setBlock w1 r (.mapIter (some b) since (seen.push e.born) clock)).heap[b]? = some (.map es clock) := (hset.2 b (fun e1 => hne e1.symm)).trans hb1
    have hlk : left k = true := by rw [hl1 e hem k hk, hes]; rfl
    have hen := run_entry_at (P := P) (setBlock w1 r (.mapIter (some b) since (seen.push e.born) clock)) r b since seen es clock e hset.1 hb' hem hst'.2.1
    rw [hk] at hrun hen
    refine .inr ⟨k, e.val, _, (hf k e.val).2 ⟨e, hem, hk, rfl⟩, hlk, hrun, ⟨es, clock, since, seen.push e.born, clock, hb', hkeys, hst, hf, hset.1, hold, hsk, hsk, fun x hx j hj => ?_, fun j hj => hl2 j (by simp at hj; exact hj.1)⟩, ?_, fun B hB => ?_, ?_, hen⟩
    · show (left j && j != k) = _
      rw [hl1 x hx j hj, contains_push]
      by_cases hbe : x.born = e.born
      · obtain rfl := born_inj hst'.2.1 hx hem hbe
        rw [hj] at hk
        cases hk
        simp
      · have h1 : (x.born == e.born) = false := by simp [hbe]
        have h2 : (j != k) = true := by
          simp only [bne_iff_ne, ne_eq]
          rintro rfl
          have := entry_eq_of_key hst'.2.2 hx hem (by rw [hj, hk])
          exact hbe (by rw [this])
        rw [h1, h2]
        simp
    · simp only [World.rangeLeft, hb, hr, hb']
      rw [show (setBlock w1 r (.mapIter (some b) since (seen.push e.born) clock)).heap[r]? = some (.mapIter (some b) since (seen.push e.born) clock) from hset.1]
      exact left_shrinks es seen e he
    · rcases hal with rfl | rfl <;> exact ⟨rfl, rfl, rfl, by simp [setBlock], fun i hi => hset.2 i (by omega)⟩
    · rcases hal with rfl | rfl <;> simp [setBlock]
theorem wpList_next_is {ops : Array Oper} {rest : List Oper} {o : Oper} {a : Act} {Q : Exit → Act → World → Prop} (hg : o.guard = none) (it : Operand) (hop : o.op = Op.next it false) (hit : a.eval it = .pointer (some ⟨r, 0, none⟩)) (h : Rng q w b r f left)
    (hDone : (∀ k, left k = false) → wpList P ops Q rest (a.put o.dst (.tuple #[.bool false])) w)
    (hMore : ∀ k v w', f k = some v → left k = true → Rng q w' b r f (fun j => left j && j != k) → w'.rangeLeft b r < w.rangeLeft b r → (∀ B, B ≤ r → Below B w w') → w'.heap.size = w.heap.size →
      (Instr.entry (.pointer (some ⟨r, 0, none⟩))).run P w' = .ok (.tuple #[.int q k, v]) w' → wpList P ops Q rest (a.put o.dst (.tuple #[.bool true, .int q k, v])) w') : wpList P ops Q (o :: rest) a w := by
  refine wpList_plain hg fun K' hK' => ?_
  unfold Oper.wp
  rcases h.next (P := P) o.type with ⟨h0, hrun⟩ | ⟨k, v, w', h1, h2, hrun, h3, h4, h5, h6, h7⟩
  · simp [execOp, hop, hit, hrun, Result.andThen]
    exact hK' _ _ (hDone h0)
  · simp [execOp, hop, hit, hrun, Result.andThen]
    exact hK' _ _ (hMore k v w' h1 h2 h3 h4 h5 h6 h7)
end
end Go.Proofs.Ythfchjcbkmabpaa
