/- For the law CursorPlays: the program's table beside the document's. -/
import Derived.Test.YtkmhdffkganhaaaCP
import Derived.Test.YtkmhdffkganhaaaLBA
namespace Go.Proofs.Ytkmhdffkganhaaa
open Go.RowKit

/-- the document's cursor: its list lies where the number says -/
def dc (A : Int → Option Addr) (C : Int → Nat) (c : Cur) : Cur := c.withC (A c.id) (C c.id)
theorem idxC_map {p : Cur → Bool} {f : Cur → Cur} (h : ∀ c, p (f c) = p c) : ∀ L : List Cur, idxC p (L.map f) = idxC p L
  | [] => rfl
  | c :: r => by
    simp only [List.map_cons, idxC, h c, idxC_map h r]
theorem idxC_any {p : Cur → Bool} {L : List Cur} : L.any p = decide (idxC p L ≠ -1) := by
  rcases idxC_cases p L with ⟨h, hf⟩ | ⟨j, hj, h, hp, _⟩
  · rw [h, decide_eq_false (by simp)]
    rw [List.any_eq_false]
    intro c hc
    obtain ⟨i, hi, rfl⟩ := List.getElem_of_mem hc
    rw [hf i hi]
    simp
  · rw [h, decide_eq_true (by omega), List.any_eq_true]
    exact ⟨_, List.getElem_mem hj, hp⟩
theorem map_dc_filter {A : Int → Option Addr} {C : Int → Nat} {p : Cur → Bool} (h : ∀ c, p (dc A C c) = p c) (L : List Cur) : (L.map (dc A C)).filter p = (L.filter p).map (dc A C) := by
  rw [List.filter_map]
  congr 1
  apply List.filter_congr
  intro c _
  exact h c
theorem map_dc_older {A : Int → Option Addr} {C : Int → Nat} (L : List Cur) : (L.map (dc A C)).map Cur.older = (L.map Cur.older).map (dc A C) := by
  rw [List.map_map, List.map_map]
  rfl
theorem dc_isAt {A : Int → Option Addr} {C : Int → Nat} (o n : Int) (c : Cur) : isAt o n (dc A C c) = isAt o n c := rfl
theorem map_dc_mv {A : Int → Option Addr} {C : Int → Nat} (o n x y : Int) (L : List Cur) : (L.map (dc A C)).map (mvC o n x y) = (L.map (mvC o n x y)).map (dc A C) := by
  rw [List.map_map, List.map_map]
  apply List.map_congr_left
  intro c _
  show mvC o n x y (dc A C c) = dc A C (mvC o n x y c)
  unfold mvC
  rw [dc_isAt]
  split <;> rfl
theorem map_dc_congr {A A' : Int → Option Addr} {C C' : Int → Nat} {L : List Cur} (h : ∀ c ∈ L, A' c.id = A c.id ∧ C' c.id = C c.id) : L.map (dc A' C') = L.map (dc A C) :=
  List.map_congr_left fun c hc => by unfold dc; rw [(h c hc).1, (h c hc).2]

/-- what holds of the cursors between the acts -/
structure CTab (L : List Cur) (n next k : Int) : Prop where
  len : (L.length : Int) ≤ n
  srt : L.Pairwise fun x y => x.id < y.id
  ids : ∀ c ∈ L, c.id ≤ next
  ages : ∀ c ∈ L, 0 ≤ c.age ∧ c.age ≤ k
theorem CTab.mono {L : List Cur} {n next k k' : Int} (h : CTab L n next k) (hk : k ≤ k') : CTab L n next k' :=
  ⟨h.len, h.srt, h.ids, fun c hc => ⟨(h.ages c hc).1, Int.le_trans (h.ages c hc).2 hk⟩⟩
theorem CTab.filter {L : List Cur} {n next k : Int} (h : CTab L n next k) (p : Cur → Bool) : CTab (L.filter p) n next k :=
  ⟨by have := List.length_filter_le p L; have := h.len; omega, h.srt.filter p, fun c hc => h.ids c (List.mem_filter.1 hc).1, fun c hc => h.ages c (List.mem_filter.1 hc).1⟩
theorem CTab.map {L : List Cur} {n next k k' : Int} (h : CTab L n next k) (f : Cur → Cur) (hid : ∀ c, (f c).id = c.id) (hag : ∀ c ∈ L, 0 ≤ (f c).age ∧ (f c).age ≤ k') : CTab (L.map f) n next k' := by
  refine ⟨by simpa using h.len, ?_, fun c hc => ?_, fun c hc => ?_⟩
  · rw [List.pairwise_map]
    exact h.srt.imp fun hlt => by rw [hid, hid]; exact hlt
  · obtain ⟨c', hc', rfl⟩ := List.mem_map.1 hc
    rw [hid]
    exact h.ids c' hc'
  · obtain ⟨c', hc', rfl⟩ := List.mem_map.1 hc
    exact hag c' hc'
theorem CTab.older {L : List Cur} {n next k : Int} (h : CTab L n next k) : CTab (L.map Cur.older) n next (k + 1) :=
  h.map _ (fun _ => rfl) fun c hc => by have := h.ages c hc; show 0 ≤ c.age + 1 ∧ c.age + 1 ≤ k + 1; omega
theorem mv_id (o n x y : Int) (c : Cur) : (mvC o n x y c).id = c.id := by unfold mvC; split <;> rfl
theorem CTab.mv {L : List Cur} {n next k : Int} (h : CTab L n next k) (hk : 0 ≤ k) (o m x y : Int) : CTab (L.map (mvC o m x y)) n next k :=
  h.map _ (mv_id o m x y) fun c hc => by
    have := h.ages c hc
    unfold mvC
    split
    · exact ⟨Int.le_refl 0, hk⟩
    · exact this
theorem CTab.uniq {L : List Cur} {n next k : Int} (h : CTab L n next k) {i j : Nat} (hi : i < L.length) (hj : j < L.length) (e : L[i].id = L[j].id) : i = j := by
  have hp := List.pairwise_iff_getElem.1 h.srt
  rcases Nat.lt_trichotomy i j with h1 | h1 | h1
  · have := hp i j hi hj h1; omega
  · exact h1
  · have := hp j i hj hi h1; omega
/-- of each one that is there its owner's number finds it -/
theorem CTab.found {L : List Cur} {n next k : Int} (h : CTab L n next k) {m : Nat} (hm : m < L.length) : idxC (isAt L[m].owner L[m].id) L = m := by
  refine idxC_hit _ L m hm (by simp [isAt]) fun t ht ht' => ?_
  unfold isAt
  have : L[t].id ≠ L[m].id := fun e => by have := h.uniq ht' hm e; omega
  simp [this]
theorem CTab.set_mv {L : List Cur} {n next k : Int} (h : CTab L n next k) {j : Nat} (hj : j < L.length) (o m x y : Int) (hi : idxC (isAt o m) L = j) : L.set j (L[j].moved x y) = L.map (mvC o m x y) := by
  have hp := idxC_spec hj hi
  apply List.ext_getElem (by simp)
  intro t h1 h2
  rw [List.getElem_set, List.getElem_map]
  split
  · rename_i e
    subst e
    unfold mvC
    rw [if_pos hp]
  · rename_i e
    have ht : t < L.length := by simpa using h1
    unfold mvC
    rw [if_neg]
    intro hp2
    unfold isAt at hp hp2
    simp at hp hp2
    exact e (h.uniq hj ht (by omega))
theorem map_mv_none {L : List Cur} (o m x y : Int) (hi : idxC (isAt o m) L = -1) : L.map (mvC o m x y) = L := by
  rcases idxC_cases (isAt o m) L with ⟨_, hf⟩ | ⟨j, _, h, _⟩
  · apply List.ext_getElem (by simp)
    intro t h1 h2
    rw [List.getElem_map]
    unfold mvC
    rw [if_neg]
    rw [hf t h2]
    simp
  · omega
/-- a table fits one more -/
theorem CTab.snoc {L : List Cur} {n next k : Int} (h : CTab L n next k) (hk : 0 ≤ k) (c : Cur) (hid : c.id = next + 1) (hag : c.age = 0) (hl : (L.length : Int) + 1 ≤ n) : CTab (L ++ [c]) n (next + 1) k := by
  refine ⟨by simp; omega, ?_, fun x hx => ?_, fun x hx => ?_⟩
  · rw [List.pairwise_append]
    refine ⟨h.srt, List.pairwise_singleton _ _, fun x hx y hy => ?_⟩
    simp at hy
    subst hy
    have := h.ids x hx
    omega
  · rcases List.mem_append.1 hx with hx | hx
    · have := h.ids x hx; omega
    · simp at hx; subst hx; omega
  · rcases List.mem_append.1 hx with hx | hx
    · exact h.ages x hx
    · simp at hx; subst hx; omega
theorem CTab.tail {c : Cur} {r : List Cur} {m n next k : Int} (h : CTab (c :: r) m next k) (hl : (r.length : Int) ≤ n) : CTab r n next k :=
  ⟨hl, (List.pairwise_cons.1 h.srt).2, fun x hx => h.ids x (by simp [hx]), fun x hx => h.ages x (by simp [hx])⟩

/-- the program's table holds L, the document's M; of the cursors S the lists hold alike -/
structure G (w0 : World) (b d : Nat) (A : Int → Option Addr) (C : Int → Nat) (L M S : List Cur) (n life next last : Int) (wr : World) : Prop where
  p : ∃ v, TabIs wr w0.heap.size b v L n life next
  q : ∃ a c, DocIs wr w0.heap.size d a c M n life last
  src : ∀ c ∈ S, ∃ ys, SrcT wr c.ca c.cl (U32s ys) ∧ SrcV w0 (A c.id) c.cl (U32s ys) ∧ c.cl ≤ 1000
  below : Below w0.heap.size w0 wr
section
variable {w0 : World} {b d : Nat} {A : Int → Option Addr} {C : Int → Nat} {L M S : List Cur} {n life next last : Int} {wr : World}
theorem G.later (h : G w0 b d A C L M S n life next last wr) {w' : World} (hB : Below wr.heap.size wr w') : G w0 b d A C L M S n life next last w' := by
  obtain ⟨v, T⟩ := h.p
  obtain ⟨a, c, D⟩ := h.q
  refine ⟨⟨v, T.below hB (Nat.le_refl _)⟩, ⟨a, c, D.below hB⟩, fun c hc => ?_, h.below.trans (hB.mono h.below.size)⟩
  obtain ⟨ys, h1, h2⟩ := h.src c hc
  exact ⟨ys, h1.below hB, h2⟩
theorem G.prog (h : G w0 b d A C L M S n life next last wr) {w' : World} {v v' : Value} {L' : List Cur} {next' : Int} (T : TabIs wr w0.heap.size b v L n life next) (T' : TabIs w' w0.heap.size b v' L' n life next') (F : FrameV b v wr w') : G w0 b d A C L' M S n life next' last w' := by
  obtain ⟨a, c, D⟩ := h.q
  refine ⟨⟨v', T'⟩, ⟨a, c, D.frameV T F⟩, fun c hc => ?_, T.frame F h.below h.below.size⟩
  obtain ⟨ys, h1, h2⟩ := h.src c hc
  exact ⟨ys, h1.frameV T F, h2⟩
theorem FrameV.of_frame1 {b : Nat} {w w' : World} (F : Frame1 b w w') (v : Value) : FrameV b v w w' := ⟨F.os, F.tape, F.output, F.size, fun k hk hb _ => F.block k hk hb⟩
theorem G.doc (h : G w0 b d A C L M S n life next last wr) {w' : World} {a a' : Option Addr} {c c' : Nat} {M' : List Cur} {last' : Int} (D : DocIs wr w0.heap.size d a c M n life last) (D' : DocIs w' w0.heap.size d a' c' M' n life last') (F : Frame1 d wr w') : G w0 b d A C L M' S n life next last' w' := by
  obtain ⟨v, T⟩ := h.p
  refine ⟨⟨v, TabIs.frame1 D T F⟩, ⟨a', c', D'⟩, fun c hc => ?_, h.below.trans (F.below h.below.size D.hb)⟩
  obtain ⟨ys, h1, h2⟩ := h.src c hc
  exact ⟨ys, h1.frame1 D F, h2⟩
theorem G.sub (h : G w0 b d A C L M S n life next last wr) {S' : List Cur} (hs : ∀ c ∈ S', ∃ c0 ∈ S, c.ca = c0.ca ∧ c.cl = c0.cl ∧ c.id = c0.id) : G w0 b d A C L M S' n life next last wr :=
  ⟨h.p, h.q, fun c hc => by
    obtain ⟨c0, h0, e1, e2, e3⟩ := hs c hc
    rw [e1, e2, e3]
    exact h.src c0 h0, h.below⟩
theorem G.twin (h : G w0 b d A C L M S n life next last wr) {c : Cur} (hc : c ∈ S) : Twin wr c (dc A C c) := by
  obtain ⟨ys, h1, h2, h3⟩ := h.src c hc
  exact ⟨_, _, ys, rfl, h1.1, h2.below h.below, h3⟩
end
end Go.Proofs.Ytkmhdffkganhaaa
