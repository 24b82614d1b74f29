/- For the law CursorPlays: what each act brings about in both tables. -/
import Derived.Test.YtkmhdffkganhaaaLPA
import Derived.Test.YtkmhdffkganhaaaRowk3
namespace Go.Proofs.Ytkmhdffkganhaaa
open Go.RowKit

/-- a block of another type stays through the acts on the tables -/
theorem box_prog {w w' : World} {base b q : Nat} {v : Value} {L : List Cur} {most life next : Int} {C : Array Value} {t : TypeId} (hq : w.heap[q]? = some (.cells C t (0, 0))) (ht : t ≠ 66 ∧ t ≠ 34) (T : TabIs w base b v L most life next) (F : FrameV b v w w') : w'.heap[q]? = some (.cells C t (0, 0)) := by
  rw [F.block _ (ltOf hq) (by rintro rfl; rw [T.blk] at hq; cases hq; exact ht.1 rfl) (fun e => by obtain ⟨_, c, hc⟩ := ownsRow_block T.own _ e; rw [hc] at hq; cases hq; exact ht.2 rfl)]
  exact hq
theorem box_doc {w w' : World} {base d q : Nat} {a : Option Addr} {c : Nat} {L : List Cur} {most life last : Int} {C : Array Value} {t : TypeId} (hq : w.heap[q]? = some (.cells C t (0, 0))) (ht : t ≠ 62) (D : DocIs w base d a c L most life last) (F : Frame1 d w w') : w'.heap[q]? = some (.cells C t (0, 0)) := by
  rw [F.block _ (ltOf hq) (by rintro rfl; rw [D.blk] at hq; cases hq; exact ht rfl)]
  exact hq

/-- two lists may be told to be the same -/
def SameR (w : World) (o o2 : Value) : Prop := ∃ (X M : List Cur) (a1 a2 : Option Addr) (n c1 c2 : Nat), o = .slice a1 n c1 ∧ o2 = .slice a2 n c2 ∧ X.length = n ∧ M.length = n ∧ RowC w a1 X ∧ RowC w a2 M ∧ (∀ i (h : i < X.length) (h' : i < M.length), Twin w X[i] M[i]) ∧ n ≤ 1000
theorem same_of {w : World} {o o2 : Value} (h : SameR w o o2) : Calls Try.prog 20 #[o, o2] w fun e w' => e = .returned (.bool true) ∧ Below w.heap.size w w' := by
  obtain ⟨X, M, a1, a2, n, c1, c2, rfl, rfl, h1, h2, h3, h4, h5, h6⟩ := h
  exact same_any a1 a2 n c1 c2 X M w h1 h2 h3 h4 h5 h6
theorem SameR.below {w w' : World} {o o2 : Value} (h : SameR w o o2) (hB : Below w.heap.size w w') : SameR w' o o2 := by
  obtain ⟨X, M, a1, a2, n, c1, c2, e1, e2, h1, h2, h3, h4, h5, h6⟩ := h
  exact ⟨X, M, a1, a2, n, c1, c2, e1, e2, h1, h2, h3.below hB, h4.below hB, fun i hi hi' => (h5 i hi hi').below hB, h6⟩

/-- the act lies in block q -/
def BoxA (w : World) (q : Nat) (a : ActC) : Prop := w.heap[q]? = some (.cells a.cells.toArray 44 (0, 0))
theorem BoxA.below {w w' : World} {q : Nat} {a : ActC} (h : BoxA w q a) (hB : Below w.heap.size w w') : BoxA w' q a := heap_below hB h (ltOf h)

/-- between the acts -/
def PR (w0 : World) (b d : Nat) (n life k : Int) (wr : World) : Prop := ∃ A C L next, G w0 b d A C L (L.map (dc A C)) L n life next next wr ∧ CTab L n next k ∧ 0 ≤ next ∧ next ≤ k
theorem PR.later {w0 : World} {b d : Nat} {n life k : Int} {wr w' : World} (h : PR w0 b d n life k wr) (hB : Below wr.heap.size wr w') : PR w0 b d n life k w' := by
  obtain ⟨A, C, L, next, g, t, h⟩ := h
  exact ⟨A, C, L, next, g.later hB, t, h⟩
theorem PR.mono {w0 : World} {b d : Nat} {n life k k' : Int} {wr : World} (h : PR w0 b d n life k wr) (hk : k ≤ k') : PR w0 b d n life k' wr := by
  obtain ⟨A, C, L, next, g, t, h1, h2⟩ := h
  exact ⟨A, C, L, next, g, t.mono hk, h1, by omega⟩

section
variable {w0 : World} {b d : Nat} {A : Int → Option Addr} {C : Int → Nat} {L M : List Cur} {n life next k : Int} {wr : World}

/-- behind the program's Leave or Tick: o went; L' stayed; the document's table is as it was -/
structure GoneP (w0 : World) (b d : Nat) (A : Int → Option Addr) (C : Int → Nat) (M S L' X : List Cur) (n life next : Int) (o : Value) (w1 : World) : Prop where
  g : G w0 b d A C L' M S n life next next w1
  o : OutC w1 w0.heap.size o X
theorem GoneP.both {S L' X : List Cur} {o o2 : Value} {w1 w2 : World} {a a' : Option Addr} {c c' : Nat} {B : Nat} (h : GoneP w0 b d A C M S L' X n life next o w1) (D : DocIs w1 w0.heap.size d a c M n life next) (D' : DocIs w2 w0.heap.size d a' c' (L'.map (dc A C)) n life next) (F : Frame1 d w1 w2)
    (hO : OutD w2 B o2 (X.map (dc A C))) (hX : ∀ c ∈ X, ∃ c0 ∈ S, c.ca = c0.ca ∧ c.cl = c0.cl ∧ c.id = c0.id) (hL : ∀ c ∈ L', ∃ c0 ∈ S, c.ca = c0.ca ∧ c.cl = c0.cl ∧ c.id = c0.id) (hn : X.length ≤ 1000) :
    G w0 b d A C L' (L'.map (dc A C)) L' n life next next w2 ∧ SameR w2 o o2 := by
  have hg := h.g.doc D D' F
  have ho : OutC w2 w0.heap.size o X := ownsRow_of_heap h.o fun g hg => by
    obtain ⟨_, cu, hc⟩ := ownsRow_block h.o g hg
    exact F.block _ (ltOf hc) (by rintro rfl; rw [D.blk] at hc; cases hc)
  obtain ⟨a1, c1, e1, r1⟩ := ho.row
  obtain ⟨a2, c2, e2, r2, _⟩ := hO.row
  rw [List.length_map] at e2
  refine ⟨hg.sub hL, X, X.map (dc A C), a1, a2, X.length, c1, c2, e1, e2, rfl, by simp, r1, r2, fun i hi hi' => ?_, hn⟩
  rw [List.getElem_map]
  exact (hg.sub hX).twin (List.getElem_mem hi)

theorem mem_filter_sub {p : Cur → Bool} : ∀ c ∈ L.filter p, ∃ c0 ∈ L, c.ca = c0.ca ∧ c.cl = c0.cl ∧ c.id = c0.id := fun c hc => ⟨c, (List.mem_filter.1 hc).1, rfl, rfl, rfl⟩
theorem mem_older_sub {p : Cur → Bool} : ∀ c ∈ (L.map Cur.older).filter p, ∃ c0 ∈ L, c.ca = c0.ca ∧ c.cl = c0.cl ∧ c.id = c0.id := fun c hc => by
  obtain ⟨c0, h0, rfl⟩ := List.mem_map.1 (List.mem_filter.1 hc).1
  exact ⟨c0, h0, rfl, rfl, rfl⟩
theorem mem_mv_sub {o m x y : Int} : ∀ c ∈ L.map (mvC o m x y), ∃ c0 ∈ L, c.ca = c0.ca ∧ c.cl = c0.cl ∧ c.id = c0.id := fun c hc => by
  obtain ⟨c0, h0, rfl⟩ := List.mem_map.1 hc
  refine ⟨c0, h0, ?_⟩
  unfold mvC
  split <;> exact ⟨rfl, rfl, rfl⟩

/-- what Get or Close give of both: a cursor and its twin, or of nothing -/
theorem twin_zero (w : World) : Twin w (cur0 0) (cur0 0) := ⟨none, 0, [], rfl, srcV_none w, srcV_none w, by decide⟩
theorem zarr_val : Value.agg zarr34 = (cur0 0).val := rfl
def GotP (o m : Int) (L : List Cur) (e : Ending) : Prop := (idxC (isAt o m) L = -1 ∧ e = .returned (.tuple #[.agg zarr34, .bool false])) ∨ (∃ (j : Nat) (h : j < L.length), idxC (isAt o m) L = j ∧ e = .returned (.tuple #[L[j].val, .bool true]))
theorem got_twin {S : List Cur} {wx : World} {last : Int} {L' M' : List Cur} (h : G w0 b d A C L' M' S n life next last wx) (hS : S = L) (o m : Int) {e1 e2 : Ending} (h1 : GotP o m L e1) (h2 : GotP o m (L.map (dc A C)) e2) :
    ∃ (x y : Cur) (r : Bool), e1 = .returned (.tuple #[x.val, .bool r]) ∧ e2 = .returned (.tuple #[y.val, .bool r]) ∧ Twin wx x y := by
  subst hS
  have hm := idxC_map (p := isAt o m) (f := dc A C) (fun c => dc_isAt o m c) S
  unfold GotP at h2
  rw [hm] at h2
  rcases h1 with ⟨i1, e1⟩ | ⟨j, hj, i1, e1⟩
  · rcases h2 with ⟨i2, e2⟩ | ⟨j2, hj2, i2, e2⟩
    · exact ⟨cur0 0, cur0 0, false, e1, e2, twin_zero wx⟩
    · omega
  · rcases h2 with ⟨i2, e2⟩ | ⟨j2, hj2, i2, e2⟩
    · omega
    · obtain rfl : j = j2 := by omega
      rw [List.getElem_map] at e2
      exact ⟨S[j], dc A C S[j], true, e1, e2, h.twin (List.getElem_mem hj)⟩

/-- behind the program's Open -/
def OpenP (w0 : World) (b d : Nat) (A : Int → Option Addr) (C : Int → Nat) (L M : List Cur) (c : Cur) (n life next : Int) (o : Value) (w1 : World) : Prop :=
  ∃ z : Cur, z.id = next + 1 ∧ z.age = 0 ∧ dc A C z = c.fresh (next + 1) c.ca c.cc ∧
    (((L.length : Int) + 1 ≤ n ∧ o = .slice none 0 0 ∧ G w0 b d A C (L ++ [z]) M (L ++ [z]) n life (next + 1) next w1) ∨
     (n < (L.length : Int) + 1 ∧ ∃ x r, L ++ [z] = x :: r ∧ OutC w1 w0.heap.size o [x] ∧ G w0 b d A C r M (L ++ [z]) n life (next + 1) next w1))
theorem open_prog (h : G w0 b d A C L M L n life next next wr) (hT : CTab L n next k) {v : Value} (T : TabIs wr w0.heap.size b v L n life next) {c : Cur} {ys : List Int} (hsrc : SrcV w0 c.ca c.cl (U32s ys)) (hcl : c.cl ≤ 1000) {w1 : World} {a' : Option Addr} {cc' : Nat} {o : Value}
    (hr : (((L.length : Int) + 1 ≤ n ∧ o = .slice none 0 0 ∧ ∃ v', TabIs w1 w0.heap.size b v' (L ++ [c.fresh (next + 1) a' cc']) n life (next + 1)) ∨
       (n < (L.length : Int) + 1 ∧ OutC w1 wr.heap.size o ((L ++ [c.fresh (next + 1) a' cc']).filter (fun x => x.id == firstId (L ++ [c.fresh (next + 1) a' cc']))) ∧
         ∃ v', TabIs w1 w0.heap.size b v' ((L ++ [c.fresh (next + 1) a' cc']).filter (fun x => !(x.id == firstId (L ++ [c.fresh (next + 1) a' cc'])))) n life (next + 1))))
    (hS : SrcT w1 a' c.cl (U32s ys)) (F : FrameV b v wr w1) :
    OpenP w0 b d (fun i => if i = next + 1 then c.ca else A i) (fun i => if i = next + 1 then c.cc else C i) L M c n life next o w1 := by
  obtain ⟨z, hz⟩ : ∃ z, z = c.fresh (next + 1) a' cc' := ⟨_, rfl⟩
  rw [← hz] at hr
  have hid : z.id = next + 1 := by rw [hz]; rfl
  refine ⟨z, hid, by rw [hz]; rfl, ?_, ?_⟩
  · unfold dc
    rw [hid]
    dsimp only
    rw [if_pos rfl, if_pos rfl, hz]
    rfl
  obtain ⟨a, cq, D⟩ := h.q
  have src : ∀ x ∈ L ++ [z], ∃ ys, SrcT w1 x.ca x.cl (U32s ys) ∧ SrcV w0 ((fun i => if i = next + 1 then c.ca else A i) x.id) x.cl (U32s ys) ∧ x.cl ≤ 1000 := fun x hx => by
    rcases List.mem_append.1 hx with hx | hx
    · obtain ⟨ys, h1, h2, h3⟩ := h.src x hx
      have := hT.ids x hx
      exact ⟨ys, h1.frameV T F, by dsimp only; rw [if_neg (by omega)]; exact h2, h3⟩
    · simp at hx
      subst hx
      refine ⟨ys, ?_, by dsimp only; rw [hid, if_pos rfl, hz]; exact hsrc, by rw [hz]; exact hcl⟩
      rw [hz]
      exact hS
  have hD := D.frameV T F
  have hB := T.frame F h.below h.below.size
  rcases hr with ⟨h1, h2, v', h3⟩ | ⟨h1, h2, v', h3⟩
  · exact .inl ⟨h1, h2, ⟨⟨v', h3⟩, ⟨a, cq, hD⟩, src, hB⟩⟩
  · obtain ⟨x, r, e⟩ : ∃ x r, L ++ [z] = x :: r := by
      cases L with
      | nil => exact ⟨z, [], rfl⟩
      | cons u v => exact ⟨u, v ++ [z], rfl⟩
    have hs : (x :: r).Pairwise fun x y => x.id < y.id := by
      rw [← e, List.pairwise_append]
      refine ⟨hT.srt, List.pairwise_singleton _ _, fun x hx y hy => ?_⟩
      simp at hy
      subst hy
      have := hT.ids x hx
      omega
    obtain ⟨f1, f2⟩ := first_gone x r hs
    rw [e] at h2 h3
    simp only [firstId] at h2 h3
    rw [f1] at h2
    rw [f2] at h3
    exact .inr ⟨h1, x, r, e, ownsRow_weaken h2 h.below.size, ⟨⟨v', h3⟩, ⟨a, cq, hD⟩, src, hB⟩⟩
theorem open_both {c : Cur} {o o2 : Value} {w1 w2 : World} {A0 : Int → Option Addr} {C0 : Int → Nat} (hM : M = L.map (dc A0 C0)) (hM2 : L.map (dc A C) = L.map (dc A0 C0)) (h : OpenP w0 b d A C L M c n life next o w1) (hT : CTab L n next k) (hk : 0 ≤ k) (hx : 0 ≤ next) (hxk : next ≤ k)
    {a : Option Addr} {cq : Nat} (D : DocIs w1 w0.heap.size d a cq M n life next) (hO : Opened w0.heap.size d M n life next (c.fresh (next + 1) c.ca c.cc) o2 w2) (F : Frame1 d w1 w2) : PR w0 b d n life (k + 1) w2 ∧ SameR w2 o o2 := by
  obtain ⟨z, hid, hag, hdc, h⟩ := h
  have hml : M.length = L.length := by rw [hM, List.length_map]
  have hMz : M ++ [c.fresh (next + 1) c.ca c.cc] = (L ++ [z]).map (dc A C) := by rw [hM, ← hM2, List.map_append, ← hdc]; rfl
  obtain ⟨a', c', hO⟩ := hO
  rw [hml, hMz] at hO
  have hL := hT.len
  rcases h with ⟨h1, h2, g⟩ | ⟨h1, x, r, e, ho, g⟩
  · rcases hO with ⟨h3, h4, D'⟩ | ⟨h3, _⟩
    · refine ⟨⟨A, C, L ++ [z], next + 1, g.doc D D' F, (hT.snoc hk z hid hag h1).mono (by omega), by omega, by omega⟩, [], [], none, none, 0, 0, 0, h2, h4, rfl, rfl, fun hp => absurd hp (by simp), fun hp => absurd hp (by simp), fun i hi => absurd hi (by simp), by decide⟩
    · omega
  · rcases hO with ⟨h3, _⟩ | ⟨h3, y, r2, ao, co, e2, ho2, hrow, D'⟩
    · omega
    · rw [e, List.map_cons] at e2
      injection e2 with ey er
      subst er
      have hg := g.doc D D' F
      have hct : CTab (x :: r) (n + 1) (next + 1) k := by
        rw [← e]
        refine CTab.snoc ⟨by omega, hT.srt, hT.ids, hT.ages⟩ hk z hid hag ?_
        omega
      have hrl : (r.length : Int) ≤ n := by
        have := congrArg List.length e
        simp at this
        omega
      have ho' : OutC w2 w0.heap.size o [x] := ownsRow_of_heap ho fun g hg => by
        obtain ⟨_, cu, hc⟩ := ownsRow_block ho g hg
        exact F.block _ (ltOf hc) (by rintro rfl; rw [D.blk] at hc; cases hc)
      obtain ⟨a1, c1, e1, r1⟩ := ho'.row
      refine ⟨⟨A, C, r, next + 1, hg.sub fun c hc => ⟨c, by rw [e]; simp [hc], rfl, rfl, rfl⟩, (hct.tail hrl).mono (by omega), by omega, by omega⟩, [x], [y], a1, ao, 1, c1, co, e1, ho2, rfl, rfl, r1, hrow, fun i hi hi' => ?_, by decide⟩
      obtain rfl : i = 0 := by simpa using hi
      show Twin w2 x y
      rw [← ey]
      exact hg.twin (by rw [e]; simp)
end
end Go.Proofs.Ytkmhdffkganhaaa
