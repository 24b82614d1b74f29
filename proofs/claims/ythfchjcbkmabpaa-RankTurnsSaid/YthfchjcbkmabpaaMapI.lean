/- A map with integer keys, as a function from keys to values and a number of entries: laws for the walk; each under what it states. -/
import Derived.Test.YthfchjcbkmabpaaBase
import Derived.Maps.OwnSet
import Derived.Maps.OwnOps
import Derived.StillTailTactics
namespace Go.Proofs.Ythfchjcbkmabpaa
open Go.RowKit Go.MapKept
open Go.ChangeMaps (setBlock heap_setBlock_same heap_setBlock_other)

/-- Block b is a map of n entries, its keys of kind q, that holds f. -/
def MapIs (q : IntKind) (w : World) (b : Nat) (f : Int → Option Value) (n : Nat) : Prop :=
  ∃ es clock, w.heap[b]? = some (.map es clock) ∧ es.size = n ∧ (∀ x ∈ es.toList, ∃ k, x.key = .int q k) ∧ es.toList.Pairwise (fun x y => x.key ≠ y.key) ∧
    ∀ k v, f k = some v ↔ ∃ x ∈ es.toList, x.key = .int q k ∧ x.val = v

section
variable {q : IntKind} {w : World} {b : Nat} {f : Int → Option Value} {n : Nat}
theorem MapIs.lt (h : MapIs q w b f n) : b < w.heap.size := by
  obtain ⟨es, clock, hb, _⟩ := h
  exact (Array.getElem?_eq_some_iff.1 hb).1
theorem MapIs.of_heap {w' : World} (h : MapIs q w b f n) (he : w'.heap[b]? = w.heap[b]?) : MapIs q w' b f n := by
  obtain ⟨es, clock, hb, r⟩ := h
  exact ⟨es, clock, by rw [he]; exact hb, r⟩
theorem MapIs.below {B : Nat} {w' : World} (h : MapIs q w b f n) (hb : Below B w w') (hB : b < B) : MapIs q w' b f n := h.of_heap (hb.block b hB)
theorem MapIs.alloc (h : MapIs q w b f n) (o : Obj) : MapIs q (w.alloc o) b f n := h.of_heap (heap_alloc_old w o h.lt)
theorem MapIs.setCell (h : MapIs q w b f n) (a : Addr) (v : Value) (hne : b ≠ a.block) : MapIs q (w.setCell a v) b f n := h.of_heap (Below.heap_setCell _ _ _ _ hne)
theorem MapIs.drew (h : MapIs q w b f n) : MapIs q w.drew b f n := h
theorem MapIs.drewN (h : MapIs q w b f n) (k : Nat) : MapIs q (w.drewN k) b f n := h
theorem MapIs.grown {w' : World} {row : Option Nat} (h : MapIs q w b f n) (hg : w.grownBy w' row) (hne : some b ≠ row) : MapIs q w' b f n := h.of_heap (hg.block b h.lt hne)
theorem MapIs.congr (h : MapIs q w b f n) {g : Int → Option Value} (e : ∀ k, g k = f k) : MapIs q w b g n := by
  have : g = f := funext e
  rw [this]; exact h
theorem MapIs.made (q : IntKind) (w : World) (b : Nat) (hb : b = w.heap.size) : MapIs q (w.alloc (.map #[] 0)) b (fun _ => none) 0 := by
  subst hb
  exact ⟨#[], 0, heap_alloc_new w _, rfl, by simp, by simp, by simp⟩

/-- What a search finds. -/
theorem find_spec {P : Program} {K : TypeId} (hK : P.underlying K = some (.int q)) {es : Array MapEntry} (hkeys : ∀ x ∈ es.toList, ∃ k, x.key = .int q k) (k : Int) (w : World) :
    ((Instr.findKey K (.int q k) es.toList).run P w = .ok none w ∧ ∀ x ∈ es.toList, x.key ≠ .int q k) ∨
      ∃ (j : Nat) (e : MapEntry), (Instr.findKey K (.int q k) es.toList).run P w = .ok (some (j, e.val)) w ∧ es.toList[j]? = some e ∧ e.key = .int q k := by
  have hk : IsKey (.int q) (.int q k) := rfl
  rcases findNow_spec hk es.toList 0 (fun x hx => by obtain ⟨k', e⟩ := hkeys x hx; rw [e]; rfl) with ⟨h1, h2⟩ | ⟨j, e, h1, h2, h3⟩
  · exact .inl ⟨run_findKey hK h1, h2⟩
  · exact .inr ⟨j, e, by have := run_findKey (w := w) hK h1; simpa using this, h2, h3⟩

variable {P : Program}
theorem MapIs.look (h : MapIs q w b f n) {t K E : TypeId} (ht : P.underlying t = some (.map K E)) (hK : P.underlying K = some (.int q)) {z : Value} (hz : (zeroValue E).run P w = .ok z w) (k : Int) (ok : Bool) :
    (Instr.lookup t (.map (some b)) (.int q k) ok).run P w = .ok (if ok then .tuple #[(f k).getD z, .bool (f k).isSome] else (f k).getD z) w := by
  obtain ⟨es, clock, hb, hn, hkeys, hpw, hf⟩ := h
  have hck : ∀ e, (Instr.checkKey e 10000 K (.int q k)).run P w = .ok () w := fun e => run_checkKey hK (show IsKey (.int q) (.int q k) from rfl) e 9999
  rcases find_spec hK hkeys k w with ⟨hrun, hnone⟩ | ⟨j, e, hrun, hj, hkey⟩
  · have hfk : f k = none := by
      cases hv : f k with
      | none => rfl
      | some v => obtain ⟨x, hx, hk, _⟩ := (hf k v).1 hv; exact absurd hk (hnone x hx)
    simp only [Instr.lookup, Sem.run_bind, run_underlying ht, Result.andThen_ok, MapKept.run_getObj_map hb, Sem.run_pure, hck, hrun, hz, hfk]
    cases ok <;> simp
  · have hfk : f k = some e.val := (hf k e.val).2 ⟨e, List.mem_of_getElem? hj, hkey, rfl⟩
    simp only [Instr.lookup, Sem.run_bind, run_underlying ht, Result.andThen_ok, MapKept.run_getObj_map hb, Sem.run_pure, hck, hrun, hfk]
    cases ok <;> simp

/-- what a write of one block leaves -/
structure OnlyMap (w : World) (b : Nat) (w' : World) : Prop where
  os : w'.os = w.os
  tape : w'.tape = w.tape
  output : w'.output = w.output
  size : w'.heap.size = w.heap.size
  block : ∀ k, k ≠ b → w'.heap[k]? = w.heap[k]?
theorem OnlyMap.grownBy {w' : World} (h : OnlyMap w b w') : w.grownBy w' (some b) := ⟨h.os, h.tape, h.output, by rw [h.size]; exact Nat.le_refl _, fun k _ hk => h.block k (fun e => hk (by rw [e]))⟩
theorem OnlyMap.below {B : Nat} {w' : World} (h : OnlyMap w b w') (hB : B ≤ b) : Below B w w' := ⟨h.os, h.tape, h.output, by rw [h.size]; exact Nat.le_refl _, fun k hk => h.block k (by omega)⟩
theorem onlyMap_setBlock (w : World) (b : Nat) {es : Array MapEntry} {clock : Nat} (hb : w.heap[b]? = some (.map es clock)) (o : Obj) : OnlyMap w b (setBlock w b o) :=
  ⟨rfl, rfl, rfl, by simp [setBlock], fun k hk => heap_setBlock_other hb o hk⟩

def upd (f : Int → Option Value) (k : Int) (v : Value) : Int → Option Value := fun j => if j = k then some v else f j
def del (f : Int → Option Value) (k : Int) : Int → Option Value := fun j => if j = k then none else f j

theorem MapIs.store (h : MapIs q w b f n) {t K E : TypeId} (ht : P.underlying t = some (.map K E)) (hK : P.underlying K = some (.int q)) (k : Int) (v : Value) :
    ∃ w', (Instr.mapUpdate t (.map (some b)) (.int q k) v).run P w = .ok () w' ∧ MapIs q w' b (upd f k v) (if (f k).isSome then n else n + 1) ∧ OnlyMap w b w' := by
  obtain ⟨es, clock, hb, hn, hkeys, hpw, hf⟩ := h
  have hck : ∀ e, (Instr.checkKey e 10000 K (.int q k)).run P w = .ok () w := fun e => run_checkKey hK (show IsKey (.int q) (.int q k) from rfl) e 9999
  rcases find_spec hK hkeys k w with ⟨hrun, hnone⟩ | ⟨j, e, hrun, hj, hkey⟩
  · have hfk : f k = none := by
      cases hv : f k with
      | none => rfl
      | some v => obtain ⟨x, hx, hk, _⟩ := (hf k v).1 hv; exact absurd hk (hnone x hx)
    refine ⟨setBlock w b (.map (es.push { key := .int q k, val := v, born := clock }) (clock + 1)), ?_, ?_, onlyMap_setBlock w b hb _⟩
    · simp only [Instr.mapUpdate, Sem.run_bind, run_underlying ht, Result.andThen_ok, MapKept.run_getObj_map hb, hck, hrun, MapKept.run_setObj_map _ hb]; rfl
    · refine ⟨_, _, heap_setBlock_same hb _, by simp [hfk, hn], ?_, ?_, ?_⟩
      · intro x hx
        simp at hx
        rcases hx with hx | rfl
        · exact hkeys x (by simpa using hx)
        · exact ⟨k, rfl⟩
      · simp only [Array.toList_push, List.pairwise_append]
        exact ⟨hpw, by simp, fun x hx y hy => by simp at hy; subst hy; exact hnone x hx⟩
      · intro k' v'
        simp only [upd, Array.toList_push, List.mem_append, List.mem_singleton]
        by_cases hkk : k' = k
        · subst hkk
          rw [if_pos rfl]
          constructor
          · intro e; cases e; exact ⟨_, .inr rfl, rfl, rfl⟩
          · rintro ⟨x, hx | rfl, hk, rfl⟩
            · exact absurd hk (hnone x hx)
            · rfl
        · rw [if_neg hkk, hf]
          constructor
          · rintro ⟨x, hx, r⟩; exact ⟨x, .inl hx, r⟩
          · rintro ⟨x, hx | rfl, hk, rfl⟩
            · exact ⟨x, hx, hk, rfl⟩
            · simp at hk; exact absurd hk.symm hkk
  · have hfk : f k = some e.val := (hf k e.val).2 ⟨e, List.mem_of_getElem? hj, hkey, rfl⟩
    have hej : es[j]? = some e := by simpa using hj
    have hkeep : (Instr.keyThatStays (((es[j]?).map (·.key)).getD (.int q k)) (.int q k)).run P w = .ok (.int q k) w := by
      rw [hej]; simp only [Option.map_some, Option.getD_some, hkey]
      exact run_keyThatStays (d := .int q) rfl
    refine ⟨setBlock w b (.map (es.modify j fun e => { e with key := .int q k, val := v }) clock), ?_, ?_, onlyMap_setBlock w b hb _⟩
    · simp only [Instr.mapUpdate, Sem.run_bind, run_underlying ht, Result.andThen_ok, MapKept.run_getObj_map hb, hck, hrun, hkeep, MapKept.run_setObj_map _ hb]; rfl
    · have hget : ∀ i, (es.modify j fun e => { e with key := .int q k, val := v })[i]? = if i = j then (es[i]?).map (fun e => { e with key := .int q k, val := v }) else es[i]? := by
        intro i
        rw [Array.getElem?_modify]
        by_cases hij : j = i
        · subst hij; simp
        · rw [if_neg hij, if_neg (Ne.symm hij)]
      have hmem : ∀ x, x ∈ (es.modify j fun e => { e with key := .int q k, val := v }).toList ↔ (x = { e with key := .int q k, val := v } ∨ (x ∈ es.toList ∧ x.key ≠ .int q k)) := by
        intro x
        constructor
        · intro hx
          obtain ⟨i, hi⟩ := List.getElem?_of_mem hx
          rw [Array.getElem?_toList, hget] at hi
          by_cases hij : i = j
          · subst hij; rw [if_pos rfl, hej] at hi; simp at hi; exact .inl hi.symm
          · rw [if_neg hij] at hi
            refine .inr ⟨List.mem_of_getElem? (by simpa using hi), fun hk => hij ?_⟩
            have hi' : es.toList[i]? = some x := by simpa using hi
            rw [List.pairwise_iff_getElem] at hpw
            obtain ⟨li, ei⟩ := List.getElem?_eq_some_iff.1 hi'
            obtain ⟨lj, ej⟩ := List.getElem?_eq_some_iff.1 hj
            rcases Nat.lt_trichotomy i j with h | h | h
            · exact absurd (by rw [ei, ej, hk, hkey]) (hpw i j li lj h)
            · exact h
            · exact absurd (by rw [ei, ej, hk, hkey]) (hpw j i lj li h)
        · rintro (rfl | ⟨hx, hk⟩)
          · exact List.mem_of_getElem? (i := j) (by rw [Array.getElem?_toList, hget, if_pos rfl, hej]; rfl)
          · obtain ⟨i, hi⟩ := List.getElem?_of_mem hx
            refine List.mem_of_getElem? (i := i) ?_
            rw [Array.getElem?_toList, hget]
            by_cases hij : i = j
            · subst hij; rw [hj] at hi; cases hi; exact absurd hkey hk
            · rw [if_neg hij]; simpa using hi
      refine ⟨_, _, heap_setBlock_same hb _, by simp [hfk, hn], ?_, ?_, ?_⟩
      · intro x hx
        rcases (hmem x).1 hx with rfl | ⟨hx, _⟩
        · exact ⟨k, rfl⟩
        · exact hkeys x hx
      · have e1 : (es.modify j fun e => { e with key := .int q k, val := v }).toList = es.toList.modify j (fun e => { e with key := .int q k, val := v }) := by
          apply List.ext_getElem?
          intro i
          rw [Array.getElem?_toList, Array.getElem?_modify, List.getElem?_modify, Array.getElem?_toList]
          split <;> simp
        have e2 : (es.modify j fun e => { e with key := .int q k, val := v }).toList.map (·.key) = es.toList.map (·.key) := by
          rw [e1]
          apply List.ext_getElem?
          intro i
          simp only [List.getElem?_map, List.getElem?_modify]
          by_cases hij : j = i
          · subst hij; rw [hj]; simp [hkey]
          · simp [hij]
        have h' : (es.toList.map (·.key)).Pairwise (· ≠ ·) := by rw [List.pairwise_map]; exact hpw
        rw [← e2, List.pairwise_map] at h'
        exact h'
      · intro k' v'
        simp only [upd]
        by_cases hkk : k' = k
        · subst hkk
          rw [if_pos rfl]
          constructor
          · intro e; cases e; exact ⟨_, (hmem _).2 (.inl rfl), rfl, rfl⟩
          · rintro ⟨x, hx, hk, rfl⟩
            rcases (hmem x).1 hx with rfl | ⟨_, hk'⟩
            · rfl
            · exact absurd hk hk'
        · rw [if_neg hkk, hf]
          constructor
          · rintro ⟨x, hx, hk, rfl⟩
            exact ⟨x, (hmem x).2 (.inr ⟨hx, by rw [hk]; simpa using hkk⟩), hk, rfl⟩
          · rintro ⟨x, hx, hk, rfl⟩
            rcases (hmem x).1 hx with rfl | ⟨hx', _⟩
            · simp at hk; exact absurd hk.symm hkk
            · exact ⟨x, hx', hk, rfl⟩

theorem MapIs.drop (h : MapIs q w b f n) {t K E : TypeId} (ht : P.underlying t = some (.map K E)) (hK : P.underlying K = some (.int q)) (k : Int) (ty : TypeId) (kt : TypeId) :
    ∃ w', (Builtin.delete_ #[t, kt] ty #[.map (some b), .int q k]).run P w = .ok (.tuple #[]) w' ∧ MapIs q w' b (del f k) (if (f k).isSome then n - 1 else n) ∧ OnlyMap w b w' := by
  obtain ⟨es, clock, hb, hn, hkeys, hpw, hf⟩ := h
  have hck : ∀ e, (Instr.checkKey e 10000 K (.int q k)).run P w = .ok () w := fun e => run_checkKey hK (show IsKey (.int q) (.int q k) from rfl) e 9999
  rcases find_spec hK hkeys k w with ⟨hrun, hnone⟩ | ⟨j, e, hrun, hj, hkey⟩
  · have hfk : f k = none := by
      cases hv : f k with
      | none => rfl
      | some v => obtain ⟨x, hx, hk, _⟩ := (hf k v).1 hv; exact absurd hk (hnone x hx)
    refine ⟨setBlock w b (.map es clock), ?_, ?_, onlyMap_setBlock w b hb _⟩
    · simp [Builtin.delete_, Sem.run_bind, run_underlying ht, Result.andThen_ok, MapKept.run_getObj_map hb, hck, hrun, MapKept.run_setObj_map _ hb, setBlock]
    · refine ⟨_, _, heap_setBlock_same hb _, by simp [hfk, hn], hkeys, hpw, ?_⟩
      intro k' v'
      simp only [del]
      by_cases hkk : k' = k
      · subst hkk
        rw [if_pos rfl]
        constructor
        · intro e; cases e
        · rintro ⟨x, hx, hk, rfl⟩; exact absurd hk (hnone x hx)
      · rw [if_neg hkk, hf]
  · have hfk : f k = some e.val := (hf k e.val).2 ⟨e, List.mem_of_getElem? hj, hkey, rfl⟩
    have hjl : j < es.size := by have := (List.getElem?_eq_some_iff.1 hj).1; simpa using this
    have et : (es.eraseIdxIfInBounds j).toList = es.toList.eraseIdx j := by simp
    refine ⟨setBlock w b (.map (es.eraseIdxIfInBounds j) clock), ?_, ?_, onlyMap_setBlock w b hb _⟩
    · simp [Builtin.delete_, Sem.run_bind, run_underlying ht, Result.andThen_ok, MapKept.run_getObj_map hb, hck, hrun, MapKept.run_setObj_map _ hb, setBlock]
    · have hmem : ∀ x, x ∈ es.toList.eraseIdx j ↔ (x ∈ es.toList ∧ x.key ≠ .int q k) := by
        intro x
        rw [List.mem_eraseIdx_iff_getElem?]
        constructor
        · rintro ⟨i, hij, hi⟩
          refine ⟨List.mem_of_getElem? hi, fun hk => hij ?_⟩
          rw [List.pairwise_iff_getElem] at hpw
          obtain ⟨li, ei⟩ := List.getElem?_eq_some_iff.1 hi
          obtain ⟨lj, ej⟩ := List.getElem?_eq_some_iff.1 hj
          rcases Nat.lt_trichotomy i j with h | h | h
          · exact absurd (by rw [ei, ej, hk, hkey]) (hpw i j li lj h)
          · exact h
          · exact absurd (by rw [ei, ej, hk, hkey]) (hpw j i lj li h)
        · rintro ⟨hx, hk⟩
          obtain ⟨i, hi⟩ := List.getElem?_of_mem hx
          refine ⟨i, fun e => hk ?_, hi⟩
          subst e
          rw [hj] at hi; cases hi; exact hkey
      refine ⟨_, _, heap_setBlock_same hb _, ?_, ?_, ?_, ?_⟩
      · have := congrArg List.length et
        simp only [Array.length_toList, List.length_eraseIdx, if_pos (show j < es.size from hjl)] at this
        rw [this, hfk]; simp [hn]
      · intro x hx
        rw [et] at hx
        exact hkeys x ((hmem x).1 hx).1
      · rw [et]; exact hpw.sublist (List.eraseIdx_sublist ..)
      · intro k' v'
        rw [et]
        simp only [del]
        by_cases hkk : k' = k
        · subst hkk
          rw [if_pos rfl]
          constructor
          · intro e; cases e
          · rintro ⟨x, hx, hk, rfl⟩; exact absurd hk ((hmem x).1 hx).2
        · rw [if_neg hkk, hf]
          constructor
          · rintro ⟨x, hx, hk, rfl⟩
            exact ⟨x, (hmem x).2 ⟨hx, by rw [hk]; simpa using hkk⟩, hk, rfl⟩
          · rintro ⟨x, hx, hk, rfl⟩
            exact ⟨x, ((hmem x).1 hx).1, hk, rfl⟩

theorem MapIs.len (h : MapIs q w b f n) {t K E : TypeId} (ht : P.underlying t = some (.map K E)) (ty : TypeId) : (Builtin.len_ #[t] ty #[.map (some b)]).run P w = .ok (.int .i64 n) w := by
  obtain ⟨es, clock, hb, rfl, _⟩ := h
  simp [Builtin.len_, Sem.run_bind, run_underlying ht, Result.andThen_ok, MapKept.run_getObj_map hb, goInt]

theorem wpList_delete_is {ops : Array Oper} {rest : List Oper} {o : Oper} {a : Act} {Q : Exit → Act → World → Prop} (hg : o.guard = none) (m x : Operand) (t kt : TypeId)
    (hop : o.op = Op.call { callee := Callee.builtin Builtin.delete, args := #[m, x], argTypes := #[t, kt] }) {K E : TypeId} (ht : P.underlying t = some (.map K E)) (hK : P.underlying K = some (.int q))
    (hm : a.eval m = .map (some b)) (h : MapIs q w b f n) (k : Int) (hx : a.eval x = .int q k)
    (hN : ∀ w', MapIs q w' b (del f k) (if (f k).isSome then n - 1 else n) → OnlyMap w b w' → wpList P ops Q rest (a.put o.dst (.tuple #[])) w') : wpList P ops Q (o :: rest) a w := by
  refine wpList_plain hg fun K' hK' => ?_
  obtain ⟨w', hrun, r1, r2⟩ := h.drop ht hK k o.type kt
  unfold Oper.wp
  simp [execOp, hop, resolve, invoke, builtin, hm, hx, hrun, Result.andThen]
  exact hK' _ _ (hN w' r1 r2)
theorem wpList_update_is {ops : Array Oper} {rest : List Oper} {o : Oper} {a : Act} {Q : Exit → Act → World → Prop} (hg : o.guard = none) (m x v : Operand) (t : TypeId)
    (hop : o.op = Op.mapUpdate t m x v) {K E : TypeId} (ht : P.underlying t = some (.map K E)) (hK : P.underlying K = some (.int q))
    (hm : a.eval m = .map (some b)) (h : MapIs q w b f n) (k : Int) (hx : a.eval x = .int q k) (u : Value) (hv : a.eval v = u)
    (hN : ∀ w', MapIs q w' b (upd f k u) (if (f k).isSome then n else n + 1) → OnlyMap w b w' → wpList P ops Q rest (a.put o.dst undef) w') : wpList P ops Q (o :: rest) a w := by
  refine wpList_plain hg fun K' hK' => ?_
  obtain ⟨w', hrun, r1, r2⟩ := h.store ht hK k u
  unfold Oper.wp
  simp [execOp, hop, hm, hx, hv, hrun, Result.andThen]
  exact hK' _ _ (hN w' r1 r2)

/-- A region that draws its order, all but its tail only read: the world behind the draw under a name of its own. -/
theorem region_tail {id : Nat} {Q : Exit → Act → World → Prop} {a : Act} {l : List Oper} (n : Nat) (hm : P.follows .mixedOrders = true) (hB : Region.lexTailB .any l.toArray n = true)
    (h : ∀ D : World, w.drew = D → wpStill P l.toArray D (fun a' => wpList P l.toArray Q (l.drop n) a' D) (l.take n) a) : (Code.region id l.toArray true).wp P Q a w :=
  wp_region_still_tail n hm hB (h _ rfl)
end
end Go.Proofs.Ythfchjcbkmabpaa
